/-
  ServingOrder of the program. Conditions: lengths within the bound of a slice.
-/
import Derived.Test.YtaekngiejehooaaZD
import Derived.Test.YtaekngiejehooaaAP
namespace Go.Proofs.Ytaekngiejehooaa
open Go.RowKit
set_option maxRecDepth 100000
set_option maxHeartbeats 4000000

def idx (n : Nat) : List Int := (List.range n).map fun i : Nat => (i : Int)
theorem idx_succ (n : Nat) : idx (n + 1) = idx n ++ [(n : Int)] := by unfold idx; rw [List.range_succ, List.map_append]; rfl
theorem idx_len (n : Nat) : (idx n).length = n := by simp [idx]
theorem idx_mem {n : Nat} {x : Int} (h : x ∈ idx n) : ∃ i : Nat, i < n ∧ x = (i : Int) := by
  obtain ⟨i, hi, rfl⟩ := List.mem_map.1 h
  exact ⟨i, List.mem_range.1 hi, rfl⟩
def ltO (zs : List OrderT) (x y : Int) : Bool := decide (cfO zs x y < 0)
/-- the places of the orders in the order of serving -/
def quO (zs : List OrderT) : List Int := srt (ltO zs) (idx zs.length) zs.length
theorem quO_len (zs : List OrderT) : (quO zs).length = zs.length := srt_len (by rw [idx_len]; exact Nat.le_refl _)
theorem quO_mem {zs : List OrderT} {y : Int} (h : y ∈ quO zs) : ∃ i : Nat, i < zs.length ∧ y = (i : Int) := idx_mem (List.mem_of_mem_take (srt_mem (by rw [idx_len]; exact Nat.le_refl _) h))
theorem infoI : ∃ i0, Try.prog.info? 3 = some i0 ∧ i0.zero = some (.int .i64 0) ∧ i0.size = 1 ∧ i0.bytes = 8 := info_parts (show (Try.prog.info? 3).map (fun i => (i.zero, i.size, i.bytes)) = some (some (.int .i64 0), 1, 8) from by kernel_rfl)
theorem serving_is {A : Option Addr} {n c : Nat} {L : List Int} {zs : List OrderT} (hL : quO zs = L) (w : World) (hr : Rd w 5 A n (ordF zs)) (hl : zs.length = n) (hn : n ≤ 19) :
    Calls Try.prog 59 #[.slice A n c] w fun e w' => ∃ v, e = .returned v ∧ w'.ownsRow w.heap.size 3 1 v n (ints L) ∧ v ≠ .slice none 0 0 ∧ Below w.heap.size w w' := by
  have HL2 : Hid (srt (ltO zs) (idx n) n = L) := Lib.hid (by rw [← hL, ← hl]; rfl)
  clear hL
  obtain ⟨i0, hi0, hz0, hz1, hz2⟩ := infoI
  go_enter Try.func59, Try.ntmps59
  go_upto_region 1 with fail
  refine wp_gen (fun w0 => Bk w0 w.heap.size 32 [.slice A n c] ∧ Below w.heap.size w w0 ∧ w.heap.size < w0.heap.size) ⟨Bk.new' rfl, by (repeat' (first | (with_reducible exact Below.refl _ _) | (with_reducible assumption) | (with_reducible refine balloc ?_ _) | (with_reducible refine bdrew ?_) | (with_reducible refine bdrewN ?_ _) | (with_reducible refine bstep ?_ (by assumption)) | (with_reducible refine bset ?_ ?_ _) | (exact Below.size (by assumption)) | go_size)), by simp⟩ ?_
  intro w2 ⟨hX2, b2, hlt2⟩
  have c2 := hX2.cell 0
  simp only [List.getElem?_cons_zero] at c2
  have HX2 := Lib.hid hX2
  clear hX2
  go_wp2_with fail
  go_loopw [3, 8] (fun v i wr => ∃ k : Nat, k ≤ n ∧ i = .int .i64 k ∧ wr.ownsRow w2.heap.size 3 1 v (idx k).length (ints (idx k)) ∧ Hid (v ≠ .slice none 0 0) ∧ Below w2.heap.size w2 wr) (fun _ i _ => n - (intOf i).toNat)
  case atStart => exact ⟨0, Nat.zero_le _, rfl, by simpa [idx, ints] using own_lit' (w := w2) (t := 3) (k := 1) rfl (Nat.le_refl _), Lib.hid (by simp), by (repeat' (first | (with_reducible exact Below.refl _ _) | (with_reducible assumption) | (with_reducible refine balloc ?_ _) | (with_reducible refine bdrew ?_) | (with_reducible refine bdrewN ?_ _) | (with_reducible refine bstep ?_ (by assumption)) | (with_reducible refine bset ?_ ?_ _) | (exact Below.size (by assumption)) | go_size))⟩
  case round =>
    obtain ⟨k, hk, rfl, hown, HNN, hW⟩ := hrel
    have hWW := bstep b2 hW
    have hXr := HX2.out.below hW HX2.out.lt
    have HXR := Lib.hid hXr
    have c3 := hXr.cell 0
    simp only [List.getElem?_cons_zero] at c3
    clear hXr c2
    have hil := idx_len k
    by_cases hlt : k < n
    · have hsz := hW.size
      go_wp2_with (at_builtin; refine wpList_append_own _ rfl (.tmp 11) (.tmp 13) 49 rfl w2.heap.size 3 i0 (.int .i64 0) 1 8 Try.underlying49 hi0 hz0 hz1 hz2 rfl (by decide) _ _ _ rfl (own_alloc hown _) ⟨_, 0, none⟩ 1 1 [.int .i64 (k : Int)] rfl rfl ?c1 ?c2 ?c3 ?c4 ?c5 ?_)
      case c1 => exact cell_one_new _ _ _
      case c2 => (first | rfl | (intro u hu; simp at hu; subst hu; rfl))
      case c3 => (unfold maxLen; omega)
      case c4 => omega
      case c5 => (simp; omega)
      intro v' w4 hown4 hgrow _
      have b4 := own_grownBy (own_alloc hown _) (balloc hW _) hgrow (Nat.le_refl _) (by simp; omega)
      have hnn : v' ≠ .slice none 0 0 := fun h => by
        rcases own_bk hown4 with ⟨_, h0⟩ | ⟨_, _, _, h1, _⟩
        · omega
        · rw [h] at h1; cases h1
      have HN4 := Lib.hid hnn
      clear hnn
      go_wp2
      go_roundw
      case rel => exact ⟨k + 1, by omega, by go_num, by rw [idx_succ, List.length_append, hil]; simpa [ints] using hown4, HN4, b4⟩
      case measure => simp [intOf]; omega
    · obtain rfl : k = n := by omega
      rcases own_bk hown with ⟨hv, _⟩ | ⟨g, cap, cs, rfl, hb, hB, h1, h2, h3, h4⟩
      · exact absurd hv HNN.out
      rw [hil] at h1 h4 ⊢
      have hcs : cs = ints (idx k) ++ cs.drop k := by rw [← h4, Nat.mul_one]; exact (List.take_append_drop _ _).symm
      rw [hcs] at hB
      have HB := Lib.hid hB
      have HCS := Lib.hid hcs
      have H3 := Lib.hid h3
      have hgl : g < wr.heap.size := hB.lt
      have hF := fun (x y : Int) (W : World) (hx : x ∈ idx k) (hy : y ∈ idx k) (hG : wr.grownBy W (some g)) => (show Calls Try.prog 69 #[.int .i64 x, .int .i64 y, .pointer (some ⟨w.heap.size, 0, none⟩)] W fun e w' => e = .returned (.int .i64 (cfO zs x y)) ∧ Below W.heap.size W w' from by
        obtain ⟨i, hi, rfl⟩ := idx_mem hx
        obtain ⟨j, hj, rfl⟩ := idx_mem hy
        exact serv_clo zs A k c i j w.heap.size w W hr hl (hWW.grown hG hWW.size (fun k e => by cases e; exact Nat.le_of_lt (Nat.lt_of_lt_of_le hlt2 hb))) hi hj (HXR.out.grown hG (by intro e; cases e; omega)))
      clear hown hB hcs h4 h3 c3
      go_wp2_with fail
      refine (sortStable_int g k cap 3 (idx k) _ (cfO zs) w.heap.size _ HB.out (idx_len k) (by omega) hF).mono ?_
      rintro e w5 ⟨rfl, hB5, hG5⟩
      have hW5 : Below w.heap.size w w5 := hWW.grown hG5 hWW.size (fun k e => by cases e; exact Nat.le_of_lt (Nat.lt_of_lt_of_le hlt2 hb))
      have hLs : srt (fun x y => decide (cfO zs x y < 0)) (idx k) k = L := HL2.out
      rw [hLs] at hB5
      have hll : L.length = k := by rw [← HL2.out]; exact srt_len (by rw [idx_len]; exact Nat.le_refl _)
      have hown5 := bk_own (n := k) (k := 1) (xs := ints L) hb hB5 h1 h2 (by
        have h9 := congrArg List.length HCS.out
        have h8 := H3.out
        rw [List.length_append, ints_length] at h9 ⊢
        rw [idx_len] at h9
        rw [hll]
        omega) (by
        rw [Nat.mul_one, List.take_append_of_le_length (by rw [ints_length, hll]; exact Nat.le_refl _)]
        exact List.take_of_length_le (by rw [ints_length, hll]; exact Nat.le_refl _))
      have HO := Lib.hid (own_weaken (base' := w.heap.size) hown5 (Nat.le_of_lt hlt2))
      have HLL := Lib.hid hll
      clear hown5 hB5 hLs hll hF
      go_wp2
      go_returns
      exact ⟨_, rfl, HO.out, by simp, hW5⟩
end Go.Proofs.Ytaekngiejehooaa
