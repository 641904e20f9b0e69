/-
  ThickCells of the reference and of the program. Conditions: lengths within the bound of a slice.
-/
import Derived.Test.YtebfphpmdkagpaaE
namespace Go.Proofs.Ytebfphpmdkagpaa
open Go.RowKit
set_option maxRecDepth 100000
set_option maxHeartbeats 1000000

def thk (L : Int) (zs : List Int) : Nat → List Int
  | 0 => []
  | k + 1 => if L < zs.getD k 0 then thk L zs k ++ [(k : Int)] else thk L zs k
theorem thk_len (L : Int) (zs : List Int) : ∀ k, (thk L zs k).length ≤ k
  | 0 => Nat.le_refl _
  | k + 1 => by
    have h := thk_len L zs k
    unfold thk
    split <;> simp <;> omega
theorem thk_yes {L : Int} {zs : List Int} {k : Nat} {x : Int} (hk : k < zs.length) (hx : zs[k] = x) (h : L < x) : thk L zs (k + 1) = thk L zs k ++ [(k : Int)] := by
  show (if L < zs.getD k 0 then _ else _) = _; rw [getD_of hk hx, if_pos h]
theorem thk_no {L : Int} {zs : List Int} {k : Nat} {x : Int} (hk : k < zs.length) (hx : zs[k] = x) (h : ¬ L < x) : thk L zs (k + 1) = thk L zs k := by
  show (if L < zs.getD k 0 then _ else _) = _; rw [getD_of hk hx, if_neg h]
def thkL (W H L : Int) (zs : List Int) : List Int := if smB W H zs = true then thk L zs zs.length else []
theorem thkL_len (W H L : Int) (zs : List Int) : (thkL W H L zs).length ≤ zs.length := by
  unfold thkL
  split
  · exact thk_len _ _ _
  · exact Nat.zero_le _
theorem one_new {W : World} {t : TypeId} {v : Value} {g : Nat} (h : W.heap.size = g) : ∀ j u, [v][j]? = some u → (W.alloc (.cells #[v] t)).cell? ((⟨g, 0, none⟩ : Addr).add j) = some u :=
  ((Bk.new' (t := t) (cs := [v]) h).rd (k := 1) (n := 1) rfl).news
theorem sThick_is {q : Bool} {L : List Int} {W H lim : Int} {A : Option Addr} {n c : Nat} {zs : List Int} (hq : smB W H zs = q) (hL : thkL W H lim zs = L) (w : World) (hr : Rd w 1 A n (ints zs)) (hl : zs.length = n) (hn : n ≤ 1048576) :
    Calls Try.prog 18 #[.agg #[.int .i64 W, .int .i64 H, .slice A n c], .int .i64 lim] w fun e w' => ∃ v, e = .returned (.tuple #[v, .bool q]) ∧ w'.ownsRow w.heap.size 3 1 v L.length (ints L) ∧ Below w.heap.size w w' := by
  have hG := fun W0 (hW : Below w.heap.size w W0) => l19Good_is (A := A) (c := c) hq W0 (hr.below hW) hl (by omega)
  have HG := Lib.hid hG
  clear hG
  obtain ⟨i0, hi0, hz0, hz1, hz2⟩ := info_parts (show (Try.prog.info? 3).map (fun i => (i.zero, i.size, i.bytes)) = some (some (.int .i64 0), 1, 8) from by kernel_rfl)
  go_enter Try.func18, Try.ntmps18
  go_upto_region 2 with fail
  refine wp_gen (fun w0 => Bk w0 w.heap.size 27 [.int .i64 W, .int .i64 H, .slice A n c] ∧ w0.ownsRow (w.heap.size + 1) 3 1 (.slice (some ⟨w.heap.size + 1, 0, none⟩) 0 0) 0 [] ∧ Below w.heap.size w w0) ⟨Bk.alloc (Bk.new' rfl) _, own_lit' (by simp) (by simp), by (repeat' (first | (with_reducible exact Below.refl _ _) | (with_reducible assumption) | (with_reducible refine balloc ?_ _) | (with_reducible refine bdrew ?_) | (with_reducible refine bdrewN ?_ _) | (with_reducible refine bstep ?_ (by assumption)) | (with_reducible refine bset ?_ ?_ _) | (exact Below.size (by assumption)) | go_size))⟩ ?_
  intro w0 ⟨hX, ho, hW⟩
  obtain ⟨x0, x1, x2, xl⟩ := three_cells hX
  have HO := Lib.hid ho
  clear ho
  cases q
  · obtain rfl : ([] : List Int) = L := by rw [← hL]; simp [thkL, hq]
    go_wp2_with fail
    refine (HG.out _ hW).mono ?_
    rintro e w1 ⟨rfl, hb1⟩
    go_wp2
    go_returns
    exact ⟨_, rfl, own_weaken (own_below HO.out hb1) (Nat.le_succ _), bstep hW hb1⟩
  · obtain rfl : thk lim zs n = L := by rw [← hL]; simp [thkL, hq, hl]
    go_wp2_with fail
    refine (HG.out _ hW).mono ?_
    rintro e w1 ⟨rfl, hb1⟩
    have hX1 := hX.below hb1 xl
    have ho1 := own_below HO.out hb1
    have hW1 := bstep hW hb1
    clear hX x0 x1 x2 xl HO hb1
    go_wp2_with fail
    go_loopw [6, 7] (fun v i wr => ∃ k m : Nat, k ≤ n ∧ i = .int .i64 k ∧ (thk lim zs k).length = m ∧ wr.ownsRow (w.heap.size + 1) 3 1 v m (ints (thk lim zs k)) ∧ Bk wr w.heap.size 27 [.int .i64 W, .int .i64 H, .slice A n c] ∧ Below w.heap.size w wr) (fun _ i _ => n - (intOf i).toNat)
    case atStart => exact ⟨0, 0, Nat.zero_le _, rfl, rfl, ho1, hX1, hW1⟩
    case round =>
      obtain ⟨k, m, hk, rfl, hm, hown, hXk, hWk⟩ := hrel
      obtain ⟨x0, x1, x2, xl⟩ := three_cells hXk
      have HX := Lib.hid hXk
      clear hXk
      by_cases hlt : k < n
      · obtain ⟨b, off, x, rfl, hbl, hz, c0⟩ := ints_at hr hWk hl hlt
        have hk2 : k < zs.length := by omega
        have s1 : b < wr.heap.size := Nat.lt_of_lt_of_le hbl hWk.size
        have i1 : (0 : Int) ≤ (k : Int) := by omega
        have hlen := thk_len lim zs k
        rw [hm] at hlen
        by_cases hgt : lim < x
        · have hst := thk_yes hk2 hz hgt
          have HS := Lib.hid hst
          have HM := Lib.hid hm
          have i3 : (k : Int) < (n : Int) := by omega
          clear hst hz hm
          go_wp2_with (first
            | (at_builtin; refine wpList_append_own _ rfl (.tmp 27) (.tmp 29) 22 rfl (w.heap.size + 1) 3 i0 (.int .i64 0) 1 8 Try.underlying22 hi0 hz0 hz1 hz2 rfl (by decide) _ _ _ rfl (own_alloc hown _) ⟨_, 0, none⟩ 1 1 [.int .i64 (k : Int)] rfl rfl ?c1 ?c2 ?c3 ?c4 ?c5 ?_))
          case c1 => exact one_new (by simp)
          case c2 => (first | rfl | (intro u hu; simp at hu; subst hu; rfl))
          case c3 => (unfold maxLen; omega)
          case c4 => omega
          case c5 => (simp; omega)
          intro v' w1 hown' hgrow _
          have hX1 := (HX.out.alloc (.cells #[.int .i64 (k : Int)] 3)).grown hgrow (by
            intro e
            have := (hown.lt _ e.symm).1
            omega)
          have b1 : Below w.heap.size w w1 := (balloc hWk (.cells #[.int .i64 (k : Int)] 3)).grown hgrow (by simp; omega) (fun g hg => by have := (hown.lt g hg).1; omega)
          go_wp2
          go_roundw
          case rel => exact ⟨k + 1, m + 1, by omega, by go_num, by rw [HS.out]; simp [HM.out], by rw [HS.out]; simpa [ints] using hown', hX1, b1⟩
          case measure => simp [intOf]; omega
        · have hst := thk_no hk2 hz hgt
          have HS := Lib.hid hst
          have HM := Lib.hid hm
          have HOW := Lib.hid hown
          clear hst hz hm hown
          go_wp2
          go_roundw
          case rel => exact ⟨k + 1, m, by omega, by go_num, by rw [HS.out]; exact HM.out, by rw [HS.out]; exact HOW.out, HX.out, hWk⟩
          case measure => simp [intOf]; omega
      · have hkn : k = n := by omega
        subst hkn
        have ho2 := own_weaken (base' := w.heap.size) hown (Nat.le_succ _)
        have HOW := Lib.hid ho2
        have HM := Lib.hid hm
        clear hown ho2 hm
        go_wp2
        go_returns
        exact ⟨_, rfl, by rw [HM.out]; exact HOW.out, hWk⟩
end Go.Proofs.Ytebfphpmdkagpaa
