/-
  ThickCells of the program. Conditions: lengths within the bound of a slice.
-/
import Derived.Test.YtebfphpmdkagpaaH
namespace Go.Proofs.Ytebfphpmdkagpaa
open Go.RowKit
set_option maxRecDepth 100000
set_option maxHeartbeats 1000000

theorem Thick_is {q : Bool} {L : List Int} {W H lim : Int} {A : Option Addr} {n c : Nat} {zs : List Int} (hq : smB W H zs = q) (hL : thkL W H lim zs = L) (w : World) (hr : Rd w 1 A n (ints zs)) (hl : zs.length = n) (hn : n ≤ 1048576) :
    Calls Try.prog 19 #[.agg #[.int .i64 W, .int .i64 H, .slice A n c], .int .i64 lim] w fun e w' => ∃ v, e = .returned (.tuple #[v, .bool q]) ∧ w'.ownsRow w.heap.size 3 1 v L.length (ints L) ∧ Below w.heap.size w w' := by
  have hG := fun W0 (hW : Below w.heap.size w W0) => IsSmoke_is (A := A) (c := c) hq W0 (hr.below hW) hl (by omega)
  have HG := Lib.hid hG
  clear hG
  obtain ⟨i0, hi0, hz0, hz1, hz2⟩ := info_parts (show (Try.prog.info? 3).map (fun i => (i.zero, i.size, i.bytes)) = some (some (.int .i64 0), 1, 8) from by kernel_rfl)
  go_enter Try.func19, Try.ntmps19
  have hX := Bk.new w 27 [.int .i64 W, .int .i64 H, .slice A n c]
  have hW := balloc (Below.refl w.heap.size w) (.cells #[.int .i64 W, .int .i64 H, .slice A n c] 27)
  cases q
  · obtain rfl : ([] : List Int) = L := by rw [← hL]; simp [thkL, hq]
    go_wp2_with fail
    refine (HG.out _ hW).mono ?_
    rintro e w1 ⟨rfl, hb1⟩
    go_wp2
    go_returns
    exact ⟨_, rfl, World.ownsRow_nil _ _ _ _, bstep hW hb1⟩
  · obtain rfl : thk lim zs n = L := by rw [← hL]; simp [thkL, hq, hl]
    go_wp2_with fail
    refine (HG.out _ hW).mono ?_
    rintro e w1 ⟨rfl, hb1⟩
    have hX1 := (hX.below hb1 hX.lt).alloc (.cells #[] 3)
    have hW1 := bstep hW hb1
    have hsz : w.heap.size + 1 ≤ w1.heap.size := by have := hb1.size; simpa using this
    have ho1 : (w1.alloc (.cells #[] 3)).ownsRow (w.heap.size + 1) 3 1 (.slice (some ⟨w1.heap.size, 0, none⟩) 0 0) 0 [] := own_lit' rfl hsz
    have hW1 := balloc hW1 (.cells #[] 3)
    obtain ⟨x0, x1, x2, xl⟩ := three_cells (hX.below hb1 hX.lt)
    have hne : ¬ w.heap.size = w1.heap.size := by omega
    go_wp2_with fail
    clear x0 x1 x2 xl hne
    go_loopw [6, 16] (fun v i wr => ∃ k m : Nat, k ≤ n ∧ i = .int .i64 k ∧ (thk lim zs k).length = m ∧ wr.ownsRow (w.heap.size + 1) 3 1 v m (ints (thk lim zs k)) ∧ Bk wr w.heap.size 27 [.int .i64 W, .int .i64 H, .slice A n c] ∧ Below w.heap.size w wr) (fun _ i _ => n - (intOf i).toNat)
    case atStart => exact ⟨0, 0, Nat.zero_le _, rfl, rfl, ho1, hX1, hW1⟩
    case round =>
      obtain ⟨k, m, hk, rfl, hm, hown, hXk, hWk⟩ := hrel
      obtain ⟨x0, x1, x2, xl⟩ := three_cells hXk
      have HX := Lib.hid hXk
      clear hXk
      by_cases hlt : k < n
      · obtain ⟨b, off, x, rfl, hbl, hz, c0⟩ := ints_at hr hWk hl hlt
        have hk2 : k < zs.length := by omega
        have s1 : b < wr.heap.size := Nat.lt_of_lt_of_le hbl hWk.size
        have i1 : (0 : Int) ≤ (k : Int) := by omega
        have hlen := thk_len lim zs k
        rw [hm] at hlen
        by_cases hgt : lim < x
        · have hst := thk_yes hk2 hz hgt
          have HS := Lib.hid hst
          have HM := Lib.hid hm
          have i3 : (k : Int) < (n : Int) := by omega
          clear hst hz hm
          go_wp2_with (first
            | (at_builtin; refine wpList_append_own _ rfl (.tmp 24) (.tmp 26) 22 rfl (w.heap.size + 1) 3 i0 (.int .i64 0) 1 8 Try.underlying22 hi0 hz0 hz1 hz2 rfl (by decide) _ _ _ rfl (own_alloc hown _) ⟨_, 0, none⟩ 1 1 [.int .i64 (k : Int)] rfl rfl ?c1 ?c2 ?c3 ?c4 ?c5 ?_))
          case c1 => exact one_new (by simp)
          case c2 => (first | rfl | (intro u hu; simp at hu; subst hu; rfl))
          case c3 => (unfold maxLen; omega)
          case c4 => omega
          case c5 => (simp; omega)
          intro v' w1 hown' hgrow _
          have hX1 := (HX.out.alloc (.cells #[.int .i64 (k : Int)] 3)).grown hgrow (by
            intro e
            have := (hown.lt _ e.symm).1
            omega)
          have b1 : Below w.heap.size w w1 := (balloc hWk (.cells #[.int .i64 (k : Int)] 3)).grown hgrow (by simp; omega) (fun g hg => by have := (hown.lt g hg).1; omega)
          go_wp2
          go_roundw
          case rel => exact ⟨k + 1, m + 1, by omega, by go_num, by rw [HS.out]; simp [HM.out], by rw [HS.out]; simpa [ints] using hown', hX1, b1⟩
          case measure => simp [intOf]; omega
        · have hst := thk_no hk2 hz hgt
          have HS := Lib.hid hst
          have HM := Lib.hid hm
          have HOW := Lib.hid hown
          clear hst hz hm hown
          go_wp2
          go_roundw
          case rel => exact ⟨k + 1, m, by omega, by go_num, by rw [HS.out]; exact HM.out, by rw [HS.out]; exact HOW.out, HX.out, hWk⟩
          case measure => simp [intOf]; omega
      · have hkn : k = n := by omega
        subst hkn
        have ho2 := own_weaken (base' := w.heap.size) hown (Nat.le_succ _)
        have HOW := Lib.hid ho2
        have HM := Lib.hid hm
        clear hown ho2 hm
        go_wp2
        go_returns
        exact ⟨_, rfl, by rw [HM.out]; exact HOW.out, hWk⟩
end Go.Proofs.Ytebfphpmdkagpaa
