/-
  The run of moistures: the program's. Conditions: lengths within the bound of a slice.
-/
import Derived.Test.YtlnfccncbfpoiaaJ
namespace Go.Proofs.Ytlnfccncbfpoiaa
open Go.RowKit
set_option maxRecDepth 100000
set_option maxHeartbeats 1000000

theorem run_any (l m : Int) (hl1 : 1 ≤ l ∧ l ≤ 100) (hm : 0 ≤ m ∧ m ≤ 400) (A : Option Addr) (n c : Nat) (zs : List AirT) (w : World) (hr : Rd w 3 A n (airF zs)) (hl : zs.length = n) (hn : n ≤ 140737488355) (hall : zs.all airP = true) :
    Calls Try.prog 45 #[.agg #[.int .i64 l, .int .i64 m], .slice A n c] w fun e w' => ∃ v, e = .returned v ∧ w'.ownsRow w.heap.size 3 1 v n (ints (runA l m zs n)) ∧ Below w.heap.size w w' := by
  obtain ⟨i0, hi0, hz0, hz1, hz2⟩ := info_parts (show (Try.prog.info? 3).map (fun i => (i.zero, i.size, i.bytes)) = some (some (.int .i64 0), 1, 8) from by kernel_rfl)
  go_enter Try.func45, Try.ntmps45
  go_wp2_with fail
  go_loopw [5, 11] (fun v i wr => ∃ k : Nat, k ≤ n ∧ i = .int .i64 k ∧ wr.ownsRow (w.heap.size + 1) 3 1 v k (ints (runA l m zs k)) ∧ Bk wr w.heap.size 25 [.int .i64 l, .int .i64 (nowA l m zs k)] ∧ Below w.heap.size w wr) (fun _ i _ => n - (intOf i).toNat)
  case atStart => exact ⟨0, Nat.zero_le _, rfl, by simpa [runA, ints] using own_lit' (k := 1) (t := 3) (base := w.heap.size + 1) (w := w.alloc (.cells #[.int .i64 l, .int .i64 m] 25)) (by simp) (by simp), (Bk.new w 25 [.int .i64 l, .int .i64 m]).alloc _, by (repeat' (first | (with_reducible exact Below.refl _ _) | (with_reducible assumption) | (with_reducible refine balloc ?_ _) | (with_reducible refine bdrew ?_) | (with_reducible refine bdrewN ?_ _) | (with_reducible refine bstep ?_ (by assumption)) | (with_reducible refine bset ?_ ?_ _) | (exact Below.size (by assumption)) | go_size))⟩
  case round =>
    obtain ⟨k, hk, rfl, hown, hX, hW⟩ := hrel
    by_cases hlt : k < n
    · obtain ⟨b, off, rfl, hbl, x0, x1, x2, hz, c0, c1, c2⟩ := air_at hr hW hl hlt
      have s1 : b < wr.heap.size := Nat.lt_of_lt_of_le hbl hW.size
      have s0 : w.heap.size < wr.heap.size := hX.lt
      have hne0 : ¬ w.heap.size = wr.heap.size := by omega
      obtain ⟨ha, hba⟩ := airs_at hall (by omega) hz
      have hnb := nowA_bd (l := l) zs hm k
      have hH := fun W : World => after_any l (nowA l m zs k) x0 x1 x2 hl1 hnb ha W
      have hnx : hourI l (nowA l m zs k) (balI x0 x1 x2) = nowA l m zs (k + 1) := by rw [← hba]; rfl
      rw [hnx] at hH
      have hstp := runA_step l m zs k
      obtain ⟨nx, hnx2⟩ : ∃ nx, nowA l m zs (k + 1) = nx := ⟨_, rfl⟩
      rw [hnx2] at hH hstp
      obtain ⟨nw, hnw⟩ : ∃ nw, nowA l m zs k = nw := ⟨_, rfl⟩
      rw [hnw] at hH hX
      have k0 := hX.cell 0
      have k1 := hX.cell 1
      simp only [List.getElem?_cons_zero, List.getElem?_cons_succ] at k0 k1
      have HH := Lib.hid hH
      have HS := Lib.hid hstp
      have HN := Lib.hid hnx2
      have HX := Lib.hid hX
      have i1 : (k : Int) < (n : Int) := by omega
      have i2 : (0 : Int) ≤ (k : Int) := by omega
      clear hz ha hba hH hnx hstp hnx2 hX hnw hnb
      have hgs : w.heap.size + 1 ≤ wr.heap.size := by omega
      go_wp2_with (first
        | (go_at_call 35; refine (HH.out _).mono ?_; rintro e w' ⟨rfl, hb⟩; have hX2 := Lib.hid ((HX.out.alloc (.cells #[.int .i64 x0, .int .i64 x1, .int .i64 x2] 27)).below hb (by simp; omega)); have p0 := hX2.out.cell 0; have p1 := hX2.out.cell 1; have f0 := hX2.out.frozen 0; have f1 := hX2.out.frozen 1; have ps := hX2.out.lt; simp only [List.getElem?_cons_zero, List.getElem?_cons_succ] at p0 p1; have hz2w := hb.size; rw [World.size_alloc] at hz2w)
        | (at_builtin; refine wpList_append_own _ rfl (.tmp 18) (.tmp 21) 38 rfl (w.heap.size + 1) 3 i0 (.int .i64 0) 1 8 Try.underlying38 hi0 hz0 hz1 hz2 rfl (by decide) _ _ _ rfl (own_alloc (own_grown (own_grown (own_below (own_alloc hown _) hb) (onlySet _ ⟨w.heap.size, 0, none⟩ _) (Nat.lt_succ_self _)) (onlySet _ ⟨w.heap.size, 1, none⟩ _) (Nat.lt_succ_self _)) _) ⟨_, 0, none⟩ 1 1 [.int .i64 nx] rfl rfl ?c1 ?c2 ?c3 ?c4 ?c5 ?_))
      case c1 => exact ((Bk.new' (t := 3) (cs := [.int .i64 nx]) (g := w'.heap.size) (by simp)).rd (k := 1) (n := 1) rfl).news
      case c2 => (first | rfl | (intro u hu; simp at hu; subst hu; rfl))
      case c3 => (unfold maxLen; omega)
      case c4 => omega
      case c5 => (simp; omega)
      intro v' w1 hown' hgrow _
      have hX1 := (((hX2.out.set_ 0 (.int .i64 l)).set_ 1 (.int .i64 nx)).alloc (.cells #[.int .i64 nx] 3)).grown hgrow (by
        intro e
        have := (hown.lt _ e.symm).1
        omega)
      have b1 : Below w.heap.size w w1 := by
        have b0 := balloc (bset (bset (bstep (balloc hW (.cells #[.int .i64 x0, .int .i64 x1, .int .i64 x2] 27)) hb) (p := ⟨w.heap.size, 0, none⟩) (Nat.le_refl _) (.int .i64 l)) (p := ⟨w.heap.size, 1, none⟩) (Nat.le_refl _) (.int .i64 nx)) (.cells #[.int .i64 nx] 3)
        exact b0.grown hgrow (by simp; omega) (fun g hg => by have := (hown.lt g hg).1; omega)
      go_wp2
      go_roundw
      case rel => exact ⟨k + 1, by omega, by go_num, by rw [HS.out]; simpa [ints] using hown', by rw [HN.out]; exact hX1, b1⟩
      case measure => simp [intOf]; omega
    · have hkn : k = n := by omega
      subst hkn
      have hown2 := own_weaken (base' := w.heap.size) hown (Nat.le_succ _)
      have HO := Lib.hid hown2
      clear hown hown2
      go_wp2
      go_returns
      exact ⟨_, rfl, HO.out, hW⟩
end Go.Proofs.Ytlnfccncbfpoiaa
