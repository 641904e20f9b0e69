/-
  What the laws over drawn arguments share: the bound on the text, lists compared. Conditions: lengths within the bound of a slice.
-/
import Derived.Test.YtbioleagenoogaaCX
import Derived.Test.YtbioleagenoogaaN
namespace Go.Proofs.Ytbioleagenoogaa
open Go.RowKit
set_option maxHeartbeats 1000000

theorem code_of {w : World} {A : Option Addr} {n : Nat} {zs : List Int} (hr : Rd w 1 A n (zs.flatMap (fun n => [Value.int .u8 n]))) (hl : zs.length = n) (hn : n ≤ 65536) (ok : ∀ z ∈ zs, 0 ≤ z ∧ z ≤ 255) : Code w A n (zs.map (Value.int .u8)) := by
  have hf : ∀ (zs : List Int), zs.flatMap (fun n => [Value.int .u8 n]) = zs.map (Value.int .u8) := by
    intro zs
    induction zs with
    | nil => rfl
    | cons z zs ih => rw [List.flatMap_cons, ih]; rfl
  rw [hf] at hr
  refine ⟨hr, fun h0 a ha => ?_, fun k hk => ?_, by omega⟩
  · obtain ⟨b, o, e, hb, _⟩ := hr.2 h0
    rw [e] at ha; cases ha; exact hb
  · have hk' : k < zs.length := by omega
    exact ⟨zs[k], by simp [hk'], ok _ (List.getElem_mem hk')⟩
theorem rInts_any (A B : Option Addr) (n m c d : Nat) (xs ys : List Int) (w : World) (hx : Rd w 1 A n (ints xs)) (hy : Rd w 1 B m (ints ys)) (hn : n ≤ 9223372036854775807) :
    Calls Try.prog 25 #[.slice A n c, .slice B m d] w fun e w' => e = .returned (.bool (decide (xs = ys))) ∧ Below w.heap.size w w' := by
  have hlx := hx.eq_len
  have hly := hy.eq_len
  by_cases hnm : n = m
  · subst hnm
    go_enter Try.func25, Try.ntmps25
    go_wp2
    go_loopw [5] (fun i wr => ∃ k : Nat, k ≤ n ∧ i = .int .i64 k ∧ Hid (xs.take k = ys.take k) ∧ Below w.heap.size w wr) (fun i _ => n - (intOf i).toNat)
    case atStart => exact ⟨0, Nat.zero_le _, rfl, rfl, Below.refl _ _⟩
    case round =>
      obtain ⟨k, hk, rfl, hE, hW⟩ := hrel
      by_cases hlt : k < n
      · obtain ⟨b1, o1, rfl, hb1, hc1⟩ := hx.2 (by omega)
        obtain ⟨b2, o2, rfl, hb2, hc2⟩ := hy.2 (by omega)
        have g1 : wr.cell? ⟨b1, o1 + k, none⟩ = some (.int .i64 xs[k]) := (hW.cell (p := ⟨b1, o1 + k, none⟩) hb1).trans (hc1 k _ (ints_get xs k (by omega)))
        have g2 : wr.cell? ⟨b2, o2 + k, none⟩ = some (.int .i64 ys[k]) := (hW.cell (p := ⟨b2, o2 + k, none⟩) hb2).trans (hc2 k _ (ints_get ys k (by omega)))
        have i1 : (0 : Int) ≤ (k : Int) := by omega
        have i2 : (k : Int) < (n : Int) := by omega
        clear hc1 hc2
        by_cases hq : xs[k] = ys[k]
        · have hq1 : (xs[k] != ys[k]) = false := by simp [hq]
          have hq2 := Lib.hid hq
          clear hq
          go_wp2
          go_quiet (fail)
          go_wp2
          go_roundw
          case rel => exact ⟨k + 1, by omega, by go_num, take_succ_eq (by omega) (by omega) hE.out hq2.out, by (repeat' (first | (with_reducible exact Below.refl _ _) | (with_reducible assumption) | (with_reducible refine balloc ?_ _) | (with_reducible refine bdrew ?_) | (with_reducible refine bdrewN ?_ _) | (with_reducible refine bstep ?_ (by assumption)) | (with_reducible refine bset ?_ ?_ _) | (exact Below.size (by assumption)) | go_size))⟩
          case measure => simp [intOf]; omega
        · have hq1 : (xs[k] != ys[k]) = true := by simp [hq]
          have hne : xs ≠ ys := ne_of_get (by omega) (by omega) hq
          have hd := Lib.hid hne
          clear hq hne
          go_wp2
          go_quiet (fail)
          go_wp2
          go_ret
          exact ⟨by simp [hd.out], by (repeat' (first | (with_reducible exact Below.refl _ _) | (with_reducible assumption) | (with_reducible refine balloc ?_ _) | (with_reducible refine bdrew ?_) | (with_reducible refine bdrewN ?_ _) | (with_reducible refine bstep ?_ (by assumption)) | (with_reducible refine bset ?_ ?_ _) | (exact Below.size (by assumption)) | go_size))⟩
      · go_wp2
        go_ret
        have e : k = n := by omega
        subst e
        have h := hE.out
        rw [List.take_of_length_le (by omega), List.take_of_length_le (by omega)] at h
        exact ⟨by simp [h], hW⟩
  · have hne : xs ≠ ys := by rintro rfl; omega
    have hd := Lib.hid hne
    have hm : ((n : Int) != (m : Int)) = true := by simp; omega
    clear hne
    go_enter Try.func25, Try.ntmps25
    go_wp2
    all_goals (go_returns; exact ⟨by simp [hd.out], by (repeat' (first | (with_reducible exact Below.refl _ _) | (with_reducible assumption) | (with_reducible refine balloc ?_ _) | (with_reducible refine bdrew ?_) | (with_reducible refine bdrewN ?_ _) | (with_reducible refine bstep ?_ (by assumption)) | (with_reducible refine bset ?_ ?_ _) | (exact Below.size (by assumption)) | go_size))⟩)
end Go.Proofs.Ytbioleagenoogaa
