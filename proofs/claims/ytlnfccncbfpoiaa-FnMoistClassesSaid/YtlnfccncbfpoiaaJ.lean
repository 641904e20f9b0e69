/-
  The run of moistures: the reference's. Conditions: lengths within the bound of a slice.
-/
import Derived.Test.YtlnfccncbfpoiaaI
import Derived.Test.YtlnfccncbfpoiaaP
import Derived.Test.YtlnfccncbfpoiaaB
namespace Go.Proofs.Ytlnfccncbfpoiaa
open Go.RowKit
set_option maxRecDepth 100000
set_option maxHeartbeats 1000000

def air0 : AirT := (0, 0, 0)
def balA (a : AirT) : Int := balI a.1 a.2.1 a.2.2
/-- the moisture after the first k hours -/
def nowA (l m : Int) (zs : List AirT) : Nat → Int
  | 0 => m
  | k + 1 => hourI l (nowA l m zs k) (balA (zs.getD k air0))
def runA (l m : Int) (zs : List AirT) (k : Nat) : List Int := (List.range k).map (fun j => nowA l m zs (j + 1))
theorem runA_len (l m : Int) (zs : List AirT) (k : Nat) : (runA l m zs k).length = k := by simp [runA]
theorem runA_step (l m : Int) (zs : List AirT) (k : Nat) : runA l m zs (k + 1) = runA l m zs k ++ [nowA l m zs (k + 1)] := by simp [runA, List.range_succ]
theorem nowA_bd {l m : Int} (zs : List AirT) (hm : 0 ≤ m ∧ m ≤ 400) : ∀ k, 0 ≤ nowA l m zs k ∧ nowA l m zs k ≤ 400
  | 0 => hm
  | k + 1 => hourI_bd (nowA_bd zs hm k) (balI_bd _ _ _)
theorem airs_at {zs : List AirT} (h : zs.all airP = true) {k : Nat} (hk : k < zs.length) {x0 x1 x2 : Int} (hz : zs[k] = (x0, x1, x2)) : airB x0 x1 x2 = true ∧ balA (zs.getD k air0) = balI x0 x1 x2 := by
  constructor
  · have := List.all_eq_true.1 h zs[k] (List.getElem_mem _)
    rw [hz] at this
    exact this
  · rw [List.getD_eq_getElem?_getD, List.getElem?_eq_getElem hk, hz]; rfl
theorem l20Run_any (l m : Int) (hl1 : 1 ≤ l ∧ l ≤ 100) (hm : 0 ≤ m ∧ m ≤ 400) (A : Option Addr) (n c : Nat) (zs : List AirT) (w : World) (hr : Rd w 3 A n (airF zs)) (hl : zs.length = n) (hn : n ≤ 140737488355) (hall : zs.all airP = true) :
    Calls Try.prog 47 #[.agg #[.int .i64 l, .int .i64 m], .slice A n c] w fun e w' => ∃ v, e = .returned v ∧ w'.ownsRow w.heap.size 3 1 v n (ints (runA l m zs n)) ∧ Below w.heap.size w w' := by
  obtain ⟨i0, hi0, hz0, hz1, hz2⟩ := info_parts (show (Try.prog.info? 3).map (fun i => (i.zero, i.size, i.bytes)) = some (some (.int .i64 0), 1, 8) from by kernel_rfl)
  go_enter Try.func47, Try.ntmps47
  go_wp2_with fail
  go_loopw [5, 6, 7] (fun v nw i wr => ∃ k : Nat, k ≤ n ∧ i = .int .i64 k ∧ nw = .int .i64 (nowA l m zs k) ∧ wr.ownsRow (w.heap.size + 1) 3 1 v k (ints (runA l m zs k)) ∧ Bk wr w.heap.size 25 [.int .i64 l, .int .i64 m] ∧ Below w.heap.size w wr) (fun _ _ i _ => n - (intOf i).toNat)
  case atStart => exact ⟨0, Nat.zero_le _, rfl, rfl, by simpa [runA, ints] using own_lit' (k := 1) (t := 3) (base := w.heap.size + 1) (w := w.alloc (.cells #[.int .i64 l, .int .i64 m] 25)) (by simp) (by simp), (Bk.new w 25 [.int .i64 l, .int .i64 m]).alloc _, by (repeat' (first | (with_reducible exact Below.refl _ _) | (with_reducible assumption) | (with_reducible refine balloc ?_ _) | (with_reducible refine bdrew ?_) | (with_reducible refine bdrewN ?_ _) | (with_reducible refine bstep ?_ (by assumption)) | (with_reducible refine bset ?_ ?_ _) | (exact Below.size (by assumption)) | go_size))⟩
  case round =>
    obtain ⟨k, hk, rfl, rfl, hown, hX, hW⟩ := hrel
    by_cases hlt : k < n
    · obtain ⟨b, off, rfl, hbl, x0, x1, x2, hz, c0, c1, c2⟩ := air_at hr hW hl hlt
      have s1 : b < wr.heap.size := Nat.lt_of_lt_of_le hbl hW.size
      have s0 : w.heap.size < wr.heap.size := hX.lt
      have k0 := hX.cell 0
      have k1 := hX.cell 1
      simp only [List.getElem?_cons_zero, List.getElem?_cons_succ] at k0 k1
      obtain ⟨ha, hba⟩ := airs_at hall (by omega) hz
      have hnb := nowA_bd (l := l) zs hm k
      have hH := fun W : World => l20Hour_any l (nowA l m zs k) x0 x1 x2 hl1 hnb ha W
      have hnx : hourI l (nowA l m zs k) (balI x0 x1 x2) = nowA l m zs (k + 1) := by rw [← hba]; rfl
      rw [hnx] at hH
      have hstp := runA_step l m zs k
      obtain ⟨nx, hnx2⟩ : ∃ nx, nowA l m zs (k + 1) = nx := ⟨_, rfl⟩
      rw [hnx2] at hH hstp
      have HH := Lib.hid hH
      have HS := Lib.hid hstp
      have HN := Lib.hid hnx2
      have HX := Lib.hid hX
      have hlen := runA_len l m zs k
      have i1 : (k : Int) < (n : Int) := by omega
      have i2 : (0 : Int) ≤ (k : Int) := by omega
      clear hz ha hba hH hnx hstp hnx2 hX hlen
      go_wp2
      (refine wp_region_bel (by kernel_rfl) (by kernel_rfl) ?_; (repeat (go_big_quiet_step ((first | (go_at_call 38; exact calls_bel (HH.out _)))))); refine wpQuiet_nil ?_; intro w' hw'; have hb := below_of hw'; clear hw'; (try clear cW fW zW); (first | (have bW := bstep bW hb) | (have bW := bstep (bdrew bW) hb) | (have bW := bstep (balloc bW _) hb) | (have bW := bstep (bdrewN bW _) hb) | (have bW := hb)); clear hb; obtain ⟨cW, fW⟩ := bcell bW; have zW := bsize bW)
      have hz2w := bW.size
      have hgs : w.heap.size + 1 ≤ wr.heap.size := by omega
      go_wp2_with (first | (at_builtin; refine wpList_append_own _ rfl (.tmp 25) (.tmp 27) 38 rfl (w.heap.size + 1) 3 i0 (.int .i64 0) 1 8 Try.underlying38 hi0 hz0 hz1 hz2 rfl (by decide) _ _ _ rfl (own_alloc (own_below hown bW) _) ⟨_, 0, none⟩ 1 1 [.int .i64 nx] rfl rfl ?c1 ?c2 ?c3 ?c4 ?c5 ?_))
      case c1 => exact cell_one_new _ _ _
      case c2 => (first | rfl | (intro u hu; simp at hu; subst hu; rfl))
      case c3 => (unfold maxLen; omega)
      case c4 => omega
      case c5 => (simp; omega)
      intro v' w1 hown' hgrow _
      have hX1 := ((HX.out.below bW HX.out.lt).alloc (.cells #[.int .i64 nx] 3)).grown hgrow (by
        intro e
        have := (hown.lt _ e.symm).1
        omega)
      have b1 : Below w.heap.size w w1 := by
        have b0 := balloc (bstep hW bW) (.cells #[.int .i64 nx] 3)
        exact b0.grown hgrow (by simp; omega) (fun g hg => by have := (hown.lt g hg).1; omega)
      go_wp2
      go_roundw
      case rel => exact ⟨k + 1, by omega, by go_num, by rw [HN.out], by rw [HS.out]; simpa [ints] using hown', hX1, b1⟩
      case measure => simp [intOf]; omega
    · have hkn : k = n := by omega
      subst hkn
      have hown2 := own_weaken (base' := w.heap.size) hown (Nat.le_succ _)
      have HO := Lib.hid hown2
      clear hown hown2
      go_wp2
      go_returns
      exact ⟨_, rfl, HO.out, hW⟩
end Go.Proofs.Ytlnfccncbfpoiaa
