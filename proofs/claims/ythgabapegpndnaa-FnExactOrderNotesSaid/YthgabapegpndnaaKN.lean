/-
  A complete notebook as a plain condition; knows of the program. Conditions: lengths within the bound of a slice.
-/
import Derived.Test.YthgabapegpndnaaMS
namespace Go.Proofs.Ythgabapegpndnaa
open Go.RowKit
set_option maxRecDepth 100000
set_option maxHeartbeats 4000000

/-- the clock ys is nowhere above xs, below place m -/
def lePre (ys xs : List Int) (m : Nat) : Prop := ∀ i, i < m → ys.getD i 0 ≤ xs.getD i 0
noncomputable def leB (ys xs : List Int) : Bool := @decide (lePre ys xs ys.length) (Classical.propDecidable _)
theorem leB_iff {ys xs : List Int} : leB ys xs = true ↔ lePre ys xs ys.length := by unfold leB; exact @decide_eq_true_iff _ (Classical.propDecidable _)
theorem leB_no {ys xs : List Int} {i : Nat} (hi : i < ys.length) (h : ¬ ys.getD i 0 ≤ xs.getD i 0) : leB ys xs = false := by
  rw [Bool.eq_false_iff]; exact fun x => h (leB_iff.1 x i hi)
theorem leB_self (xs : List Int) : leB xs xs = true := leB_iff.2 fun _ _ => Int.le_refl _
/-- the note at place v is known to the note at place k: it is that note, or its clock is nowhere above and below the number -/
noncomputable def knAt (Z : List NoteV) (k v : Nat) : Bool := decide (v = k) || (leB (nAt Z v).2.2.1 (nAt Z k).2.2.1 && decide ((nAt Z v).2.2.1.getD (nAt Z k).1.toNat 0 < (nAt Z k).2.1))
def itP (Z : List NoteV) (k : Nat) (u s : Int) : Prop := ∃ v : Nat, isFnd Z u s (v : Int) ∧ knAt Z k v = true
def noteP (Z : List NoteV) (k : Nat) : Prop := ∀ u s : Nat, u < (nAt Z k).2.2.1.length → 1 ≤ s → (s : Int) ≤ (nAt Z k).2.2.1.getD u 0 → itP Z k u s
noncomputable def noteK (Z : List NoteV) (k : Nat) : Bool := @decide (noteP Z k) (Classical.propDecidable _)
noncomputable def comB (Z : List NoteV) : Bool := @decide (∀ k, k < Z.length → noteP Z k) (Classical.propDecidable _)
theorem noteK_iff {Z : List NoteV} {k : Nat} : noteK Z k = true ↔ noteP Z k := by unfold noteK; exact @decide_eq_true_iff _ (Classical.propDecidable _)
theorem comB_iff {Z : List NoteV} : comB Z = true ↔ ∀ k, k < Z.length → noteP Z k := by unfold comB; exact @decide_eq_true_iff _ (Classical.propDecidable _)
theorem noteK_no {Z : List NoteV} {k u s : Nat} {x : Int} (h1 : u < (nAt Z k).2.2.1.length) (h2 : 1 ≤ s) (h3 : (s : Int) ≤ x) (hx : (nAt Z k).2.2.1.getD u 0 = x) (h : ¬ itP Z k u s) : noteK Z k = false := by
  rw [Bool.eq_false_iff]; exact fun y => h (noteK_iff.1 y u s h1 h2 (by omega))
theorem comB_no {Z : List NoteV} {k : Nat} (hk : k < Z.length) (h : noteK Z k = false) : comB Z = false := by
  rw [Bool.eq_false_iff]; exact fun y => by rw [noteK_iff.2 (comB_iff.1 y k hk)] at h; cases h
theorem itP_no {Z : List NoteV} {k : Nat} {u s v : Int} (hv : isFnd Z u s v) (h : v < 0) : ¬ itP Z k u s := by
  rintro ⟨m, h1, _⟩
  have := fnd_uniq hv h1
  omega
theorem itP_of {Z : List NoteV} {k v : Nat} {u s : Int} (hv : isFnd Z u s (v : Int)) : itP Z k u s ↔ knAt Z k v = true := by
  constructor
  · rintro ⟨m, h1, h2⟩
    have := fnd_uniq hv h1
    have h3 : v = m := by omega
    subst h3; exact h2
  · exact fun h => ⟨v, hv, h⟩
theorem fnd_lt {Z : List NoteV} {u s : Int} {v : Nat} (h : isFnd Z u s (v : Int)) : v < Z.length := by
  rcases h with ⟨h1, _⟩ | ⟨i, h1, h2, _⟩
  · omega
  · omega
theorem miss_com {units : Int} {Z : List NoteV} (h : bookB units Z = true) (hs : spA Z units.toNat ≠ []) : comB Z = false := by
  obtain ⟨x, hx⟩ := List.exists_mem_of_ne_nil _ hs
  obtain ⟨u, s, h1, h2, h3, rfl, h5⟩ := spA_mem.1 hx
  obtain ⟨k, hk, h6⟩ := (maxU_ge Z u s h2 _).1 h3
  have hv := book_val h (k := k) hk
  have e1 : ((nAt Z k).2.2.1.length : Int) = units := by
    rcases hz : nAt Z k with ⟨a, b, c, d⟩
    rw [hz] at hv
    exact (nP_bd hv).1
  refine comB_no hk (noteK_no (u := u) (s := s) (by omega) h2 (by omega) rfl ?_)
  rintro ⟨m, h7, _⟩
  rcases h7 with ⟨h8, _⟩ | ⟨i, h8, _, h9, _⟩
  · omega
  · exact h5 i h8 h9
theorem miss_none {units : Int} {Z : List NoteV} (h : bookB units Z = true) (hs : spA Z units.toNat = []) {k u s : Nat} (hk : k < Z.length) (hu : u < (nAt Z k).2.2.1.length) (h1 : 1 ≤ s) {x : Int} (hx : (nAt Z k).2.2.1.getD u 0 = x) (h2 : (s : Int) ≤ x) {v : Int} (hv : isFnd Z u s v) : 0 ≤ v := by
  rcases hv with ⟨rfl, hn⟩ | ⟨i, _, rfl, _⟩
  · have hvv := book_val h (k := k) hk
    have e1 : ((nAt Z k).2.2.1.length : Int) = units := by
      rcases hz : nAt Z k with ⟨a, b, c, d⟩
      rw [hz] at hvv
      exact (nP_bd hvv).1
    have : ((u : Int), (s : Int)) ∈ spA Z units.toNat := spA_mem.2 ⟨u, s, by omega, h1, (maxU_ge Z u s h1 _).2 ⟨k, hk, by omega⟩, rfl, hn⟩
    rw [hs] at this; cases this
  · omega
theorem getD_of {xs : List Int} {i : Nat} {x : Int} {h : i < xs.length} (hx : xs[i] = x) : xs.getD i 0 = x := by
  rw [List.getD_eq_getElem?_getD, List.getElem?_eq_getElem h, hx]; rfl
/-- other's clock ys against the note (u, s, xs) -/
noncomputable def knB (u s : Int) (xs ys : List Int) : Bool := leB ys xs && decide (ys.getD u.toNat 0 < s)
theorem knows_is {v : Bool} {u s u2 s2 : Int} {A A2 : Option Addr} {n c n2 c2 : Nat} {xs ys : List Int} {wd wd2 : ByteArray} (hv : knB u s xs ys = v) (w : World) (hr : Rd w 1 A n (ints xs)) (hr2 : Rd w 1 A2 n2 (ints ys)) (hl : xs.length = n) (hl2 : ys.length = n2) (hnn : n2 ≤ n) (hn : n ≤ 1048576) (hu : 0 ≤ u ∧ u < (n2 : Int)) :
    Calls Try.prog 67 #[.agg #[.int .i64 u, .int .i64 s, .slice A n c, .string wd], .agg #[.int .i64 u2, .int .i64 s2, .slice A2 n2 c2, .string wd2]] w fun e w' => e = .returned (.bool v) ∧ Below w.heap.size w w' := by
  have HV := Lib.hid hv
  clear hv
  go_enter Try.func67, Try.ntmps67
  go_upto_region 1 with fail
  refine wp_gen (fun w0 => Bk w0 w.heap.size 35 [.int .i64 u, .int .i64 s, .slice A n c, .string wd] ∧ Bk w0 (w.heap.size + 1) 35 [.int .i64 u2, .int .i64 s2, .slice A2 n2 c2, .string wd2] ∧ Below w.heap.size w w0) ⟨Bk.alloc (Bk.new' rfl) _, Bk.new' (by simp), by (repeat' (first | (with_reducible exact Below.refl _ _) | (with_reducible assumption) | (with_reducible refine balloc ?_ _) | (with_reducible refine bdrew ?_) | (with_reducible refine bdrewN ?_ _) | (with_reducible refine bstep ?_ (by assumption)) | (with_reducible refine bset ?_ ?_ _) | (exact Below.size (by assumption)) | go_size))⟩ ?_
  intro w0 ⟨hX, hY, b0⟩
  obtain ⟨x0, x1, x2, x3, xl⟩ := four_cells hX
  obtain ⟨y0, y1, y2, y3, yl⟩ := four_cells hY
  go_wp2
  go_loopw [10] (fun i wr => ∃ k : Nat, k ≤ n2 ∧ i = .int .i64 k ∧ Hid (lePre ys xs k) ∧ Below w0.heap.size w0 wr) (fun i _ => n2 - (intOf i).toNat)
  case atStart => exact ⟨0, Nat.zero_le _, rfl, Lib.hid (fun j hj => absurd hj (Nat.not_lt_zero _)), Below.refl _ _⟩
  case round =>
    obtain ⟨k, hk, rfl, HN, hW0⟩ := hrel
    have b1 := bstep b0 hW0
    have X1 := hX.below hW0 hX.lt
    have Y1 := hY.below hW0 hY.lt
    clear x0 x1 x2 x3 xl y0 y1 y2 y3 yl
    obtain ⟨x0, x1, x2, x3, xl⟩ := four_cells X1
    obtain ⟨y0, y1, y2, y3, yl⟩ := four_cells Y1
    by_cases hlt : k < n2
    · obtain ⟨b, off, x, hA, hbl, hx, c0⟩ := ints_at hr b1 hl (k := k) (by omega)
      obtain ⟨b', off', y, hA', hbl', hy, d0⟩ := ints_at hr2 b1 hl2 (k := k) (by omega)
      subst hA
      subst hA'
      have hx2 := getD_of hx
      have hy2 := getD_of hy
      have HX := Lib.hid hx2
      have HY := Lib.hid hy2
      have s1 : b < wr.heap.size := Nat.lt_of_lt_of_le hbl b1.size
      have s2 : b' < wr.heap.size := Nat.lt_of_lt_of_le hbl' b1.size
      have i1 : (0 : Int) ≤ (k : Int) := by omega
      have i2 : (k : Int) < (n : Int) := by omega
      have i3 : (k : Int) < (n2 : Int) := by omega
      clear hx hy hx2 hy2
      by_cases hyx : x < y
      · obtain rfl : v = false := by
          rw [← HV.out]; unfold knB
          rw [leB_no (i := k) (by omega) (by rw [HX.out, HY.out]; omega)]; rfl
        go_wp2
        go_returns
        exact ⟨rfl, b1⟩
      · go_wp2
        go_roundw
        case rel =>
          refine ⟨k + 1, by omega, by go_num, Lib.hid (fun j hj => ?_), hW0⟩
          by_cases h9 : j < k
          · exact HN.out j h9
          · have : j = k := by omega
            subst this; rw [HX.out, HY.out]; omega
        case measure => simp [intOf]; omega
    · have e : k = n2 := by omega
      obtain ⟨u0, u1⟩ := hu
      obtain ⟨m, rfl⟩ : ∃ m : Nat, u = (m : Int) := ⟨u.toNat, by omega⟩
      obtain ⟨b', off', y, hA', hbl', hy, d0⟩ := ints_at hr2 b1 hl2 (k := m) (by omega)
      subst hA'
      have hy2 := getD_of hy
      have hfin : decide (y < s) = v := by
        rw [← HV.out]; unfold knB
        rw [leB_iff.2 (by rw [hl2, ← e]; exact HN.out), Int.toNat_natCast, hy2]; rfl
      have s2 : b' < wr.heap.size := Nat.lt_of_lt_of_le hbl' b1.size
      have i3 : (m : Int) < (n2 : Int) := by omega
      clear hy hy2
      rcases v with _ | _
      · go_wp2
        (refine wp_region_bel (by kernel_rfl) (by kernel_rfl) ?_; (repeat (go_big_quiet_step ((first | fail)))); refine wpQuiet_nil ?_; intro w' hw'; have hb := below_of hw'; clear hw'; (try clear cW fW zW); (first | (have bW := bstep bW hb) | (have bW := bstep (bdrew bW) hb) | (have bW := bstep (balloc bW _) hb) | (have bW := bstep (bdrewN bW _) hb) | (have bW := hb)); clear hb; obtain ⟨cW, fW⟩ := bcell bW; have zW := bsize bW)
        go_wp2
        go_returns
        exact ⟨rfl, by (repeat' (first | (with_reducible exact Below.refl _ _) | (with_reducible assumption) | (with_reducible refine balloc ?_ _) | (with_reducible refine bdrew ?_) | (with_reducible refine bdrewN ?_ _) | (with_reducible refine bstep ?_ (by assumption)) | (with_reducible refine bset ?_ ?_ _) | (exact Below.size (by assumption)) | go_size))⟩
      · go_wp2
        (refine wp_region_bel (by kernel_rfl) (by kernel_rfl) ?_; (repeat (go_big_quiet_step ((first | fail)))); refine wpQuiet_nil ?_; intro w' hw'; have hb := below_of hw'; clear hw'; (try clear cW fW zW); (first | (have bW := bstep bW hb) | (have bW := bstep (bdrew bW) hb) | (have bW := bstep (balloc bW _) hb) | (have bW := bstep (bdrewN bW _) hb) | (have bW := hb)); clear hb; obtain ⟨cW, fW⟩ := bcell bW; have zW := bsize bW)
        go_wp2
        go_returns
        exact ⟨rfl, by (repeat' (first | (with_reducible exact Below.refl _ _) | (with_reducible assumption) | (with_reducible refine balloc ?_ _) | (with_reducible refine bdrew ?_) | (with_reducible refine bdrewN ?_ _) | (with_reducible refine bstep ?_ (by assumption)) | (with_reducible refine bset ?_ ?_ _) | (exact Below.size (by assumption)) | go_size))⟩
end Go.Proofs.Ythgabapegpndnaa
