/-
  Slices of pairs ([2]int): compared, marked, kept. Conditions: lengths within the bound of a slice.
-/
import Derived.Test.YthgabapegpndnaaP
import Derived.Test.YthgabapegpndnaaN
import Derived.Test.YthgabapegpndnaaQT
namespace Go.Proofs.Ythgabapegpndnaa
open Go.RowKit
set_option maxRecDepth 100000
set_option maxHeartbeats 2000000

abbrev PairT := Int × Int
def prE (a : PairT) : List Value := [.int .i64 a.1, .int .i64 a.2]
def prF (zs : List PairT) : List Value := zs.flatMap prE
theorem prE_len (a : PairT) : (prE a).length = 2 := rfl
theorem prF_len (zs : List PairT) : (prF zs).length = zs.length * 2 := flat_length prE_len zs
theorem prF_append (xs ys : List PairT) : prF (xs ++ ys) = prF xs ++ prF ys := by simp [prF]
theorem pr_at {w wr : World} {A : Option Addr} {n k : Nat} {zs : List PairT} (hr : Rd w 2 A n (prF zs)) (hW : Below w.heap.size w wr) (hl : zs.length = n) (hk : k < n) :
    ∃ b off, A = some ⟨b, off, none⟩ ∧ b < w.heap.size ∧ ∃ x y, zs[k]'(by omega) = (x, y) ∧ wr.cell? ⟨b, off + k * 2, none⟩ = some (.int .i64 x) ∧ wr.cell? ⟨b, off + k * 2 + 1, none⟩ = some (.int .i64 y) := by
  obtain ⟨b, off, e, hb, hc⟩ := hr.2 (by omega)
  have hg : ∀ j u, j < 2 → (prE (zs[k]'(by omega)))[j]? = some u → wr.cell? ⟨b, off + k * 2 + j, none⟩ = some u := fun j u hj hu => by
    rw [Nat.add_assoc]
    refine (hW.cell (p := ⟨b, off + (k * 2 + j), none⟩) hb).trans (hc _ _ ?_)
    rw [← hu]; exact flat_get prE_len zs k j (by omega) hj
  exact ⟨b, off, e, hb, (zs[k]'(by omega)).1, (zs[k]'(by omega)).2, rfl, hg 0 _ (by omega) rfl, hg 1 _ (by omega) rfl⟩
theorem pr_one (zs : List PairT) : ∀ u ∈ prF zs, u.oneCell' = true := by
  intro u hu
  unfold prF at hu
  obtain ⟨z, _, hz⟩ := List.mem_flatMap.1 hu
  simp only [prE, List.mem_cons, List.not_mem_nil, or_false] at hz
  rcases hz with rfl | rfl <;> rfl
theorem wp_gen2 {P : Program} {c : Code} {Q : Exit → Act → World → Prop} {a : Act} {w : World} (R : World → Prop) (h1 : R w) (h2 : ∀ w0, R w0 → c.wp P Q a w0) : c.wp P Q a w := h2 w h1
theorem two_cells {w : World} {g : Nat} {t : TypeId} {a b : Value} (h : Bk w g t [a, b]) : w.cell? ⟨g, 0, none⟩ = some a ∧ w.cell? ⟨g, 1, none⟩ = some b ∧ g < w.heap.size := ⟨h.cell 0, h.cell 1, h.lt⟩
theorem eqIntA2_same (x y : Int) (w : World) : Calls Try.prog 48 #[.agg #[.int .i64 x, .int .i64 y], .agg #[.int .i64 x, .int .i64 y]] w fun e w' => e = .returned (.bool true) ∧ Below w.heap.size w w' := by
  have h1 : (x != x) = false := by simp
  have h2 : (y != y) = false := by simp
  go_enter Try.func48, Try.ntmps48
  go_upto_region 1 with fail
  refine wp_gen2 (fun w0 => Bk w0 w.heap.size 55 [.int .i64 x, .int .i64 y] ∧ Bk w0 (w.heap.size + 1) 55 [.int .i64 x, .int .i64 y] ∧ Below w.heap.size w w0) ⟨Bk.alloc (Bk.new' rfl) _, Bk.new' (by simp), by (repeat' (first | (with_reducible exact Below.refl _ _) | (with_reducible assumption) | (with_reducible refine balloc ?_ _) | (with_reducible refine bdrew ?_) | (with_reducible refine bdrewN ?_ _) | (with_reducible refine bstep ?_ (by assumption)) | (with_reducible refine bset ?_ ?_ _) | (exact Below.size (by assumption)) | go_size))⟩ ?_
  intro w0 ⟨hX, hY, b0⟩
  obtain ⟨x0, x1, xl⟩ := two_cells hX
  obtain ⟨y0, y1, yl⟩ := two_cells hY
  go_wp2_with fail
  refine wp_loop_rounds 3 ?_
  rw [rounds_succ]
  go_wp2
  (refine wp_region_bel (by kernel_rfl) (by kernel_rfl) ?_; (repeat (go_big_quiet_step ((first | fail)))); refine wpQuiet_nil ?_; intro w' hw'; have hb := below_of hw'; clear hw'; (try clear cW fW zW); (first | (have bW := bstep bW hb) | (have bW := bstep (bdrew bW) hb) | (have bW := bstep (balloc bW _) hb) | (have bW := bstep (bdrewN bW _) hb) | (have bW := hb)); clear hb; obtain ⟨cW, fW⟩ := bcell bW; have zW := bsize bW)
  go_wp2_with fail
  rw [rounds_succ]
  go_wp2
  (refine wp_region_bel (by kernel_rfl) (by kernel_rfl) ?_; (repeat (go_big_quiet_step ((first | fail)))); refine wpQuiet_nil ?_; intro w' hw'; have hb := below_of hw'; clear hw'; (try clear cW fW zW); (first | (have bW := bstep bW hb) | (have bW := bstep (bdrew bW) hb) | (have bW := bstep (balloc bW _) hb) | (have bW := bstep (bdrewN bW _) hb) | (have bW := hb)); clear hb; obtain ⟨cW, fW⟩ := bcell bW; have zW := bsize bW)
  go_wp2_with fail
  rw [rounds_succ]
  go_wp2
  go_returns
  exact ⟨rfl, by (repeat' (first | (with_reducible exact Below.refl _ _) | (with_reducible assumption) | (with_reducible refine balloc ?_ _) | (with_reducible refine bdrew ?_) | (with_reducible refine bdrewN ?_ _) | (with_reducible refine bstep ?_ (by assumption)) | (with_reducible refine bset ?_ ?_ _) | (exact Below.size (by assumption)) | go_size))⟩
theorem eqIntA2S_same (A B : Option Addr) (n c d : Nat) (zs : List PairT) (w : World) (hx : Rd w 2 A n (prF zs)) (hy : Rd w 2 B n (prF zs)) (hl : zs.length = n) (hn : n ≤ 9223372036854775807) :
    Calls Try.prog 28 #[.slice A n c, .slice B n d] w fun e w' => e = .returned (.bool true) ∧ Below w.heap.size w w' := by
  go_enter Try.func28, Try.ntmps28
  go_wp2
  go_loopw [5] (fun i wr => ∃ k : Nat, k ≤ n ∧ i = .int .i64 k ∧ Below w.heap.size w wr) (fun i _ => n - (intOf i).toNat)
  case atStart => exact ⟨0, Nat.zero_le _, rfl, Below.refl _ _⟩
  case round =>
    obtain ⟨k, hk, rfl, hW⟩ := hrel
    by_cases hlt : k < n
    · obtain ⟨b, off, rfl, hbl, x, y, h1, c0, c1⟩ := pr_at hx hW hl hlt
      obtain ⟨b', off', rfl, hbl', x', y', h1', d0, d1⟩ := pr_at hy hW hl hlt
      rw [h1] at h1'
      simp only [Prod.mk.injEq] at h1'
      obtain ⟨rfl, rfl⟩ := h1'
      have i1 : (0 : Int) ≤ (k : Int) := by omega
      have i2 : (k : Int) < (n : Int) := by omega
      have s1 : b < wr.heap.size := Nat.lt_of_lt_of_le hbl hW.size
      have s2 : b' < wr.heap.size := Nat.lt_of_lt_of_le hbl' hW.size
      clear h1
      go_wp2
      (refine wp_region_bel (by kernel_rfl) (by kernel_rfl) ?_; (repeat (go_big_quiet_step ((first | (go_at_call 48; exact calls_bel (eqIntA2_same _ _ _)))))); refine wpQuiet_nil ?_; intro w' hw'; have hb := below_of hw'; clear hw'; (try clear cW fW zW); (first | (have bW := bstep bW hb) | (have bW := bstep (bdrew bW) hb) | (have bW := bstep (balloc bW _) hb) | (have bW := bstep (bdrewN bW _) hb) | (have bW := hb)); clear hb; obtain ⟨cW, fW⟩ := bcell bW; have zW := bsize bW)
      go_wp2
      go_roundw
      case rel => exact ⟨k + 1, by omega, by go_num, bstep hW bW⟩
      case measure => simp [intOf]; omega
    · go_wp2
      go_ret
      exact ⟨rfl, hW⟩
theorem markIntA2S_any (g n c : Nat) (t : TypeId) (cs : List Value) (k : Int) (w : World) (hB : Bk w g t cs) (hl : n * 2 ≤ cs.length) (hn : n ≤ 1048576) (hk : 0 ≤ k ∧ k ≤ 1152921504606846976) :
    Calls Try.prog 29 #[.slice (some ⟨g, 0, none⟩) n c, .int .i64 k] w fun e w' => e = .returned (.int .i64 (k + (n : Int) * 2)) ∧ Bk w' g t (ints (marks k (n * 2)) ++ cs.drop (n * 2)) ∧ w.grownBy w' (some g) := by
  obtain ⟨k0, k1⟩ := hk
  go_enter Try.func29, Try.ntmps29
  go_wp2
  go_loopw [1, 5] (fun kk i wr => ∃ j : Nat, j ≤ n ∧ i = .int .i64 j ∧ kk = .int .i64 (k + (j : Int) * 2) ∧ Bk wr g t (ints (marks k (j * 2)) ++ cs.drop (j * 2)) ∧ w.grownBy wr (some g)) (fun _ i _ => n - (intOf i).toNat)
  case atStart => exact ⟨0, Nat.zero_le _, rfl, by simp, by simpa [ints, marks] using hB, World.grownBy.refl w _⟩
  case round =>
    obtain ⟨j, hj, rfl, rfl, hR, hG⟩ := hrel
    by_cases hlt : j < n
    · have hL : (ints (marks k (j * 2)) ++ cs.drop (j * 2)).length = cs.length := by simp [ints, marks]; omega
      have hy : ∀ i, i < 2 → ∃ u, wr.cell? ⟨g, j * 2 + i, none⟩ = some u := fun i hi => ⟨_, by rw [hR.cell]; exact List.getElem?_eq_getElem (by rw [hL]; omega)⟩
      obtain ⟨u0, t0⟩ := hy 0 (by omega)
      obtain ⟨u1, t1⟩ := hy 1 (by omega)
      simp only [Nat.add_zero] at t0
      have f0 := hR.frozen (j * 2)
      have f1 := hR.frozen (j * 2 + 1)
      have hR' := (hR.set_ (j * 2) (.int .i64 (k + ((j * 2 : Nat) : Int)))).set_ (j * 2 + 1) (.int .i64 (k + ((j * 2 + 1 : Nat) : Int)))
      rw [step_marks (j := j * 2) (n := n * 2) hl (by omega), step_marks (j := j * 2 + 1) (n := n * 2) hl (by omega), show j * 2 + 1 + 1 = (j + 1) * 2 from by omega] at hR'
      have hG' : w.grownBy ((wr.setCell ⟨g, j * 2, none⟩ (.int .i64 (k + ((j * 2 : Nat) : Int)))).setCell ⟨g, j * 2 + 1, none⟩ (.int .i64 (k + ((j * 2 + 1 : Nat) : Int)))) (some g) := (hG.trans (onlySet wr ⟨g, j * 2, none⟩ _)).trans (onlySet _ ⟨g, j * 2 + 1, none⟩ _)
      have e1 : k + ((j * 2 : Nat) : Int) = k + (j : Int) * 2 := by omega
      have e2 : k + ((j * 2 + 1 : Nat) : Int) = k + (j : Int) * 2 + 1 := by omega
      rw [e1, e2] at hR' hG'
      have HR := Lib.hid hR'
      have HG := Lib.hid hG'
      clear hR hG hR' hG' hy e1 e2 hL
      go_wp2_with fail
      refine wp_loop_rounds 3 ?_
      rw [rounds_succ]
      go_wp2
      rw [rounds_succ]
      go_wp2
      rw [rounds_succ]
      go_wp2
      go_roundw
      case rel => exact ⟨j + 1, by omega, by go_num, by go_num, HR.out, HG.out⟩
      case measure => simp [intOf]; omega
    · go_wp2
      go_ret
      have e : j = n := by omega
      subst e
      exact ⟨rfl, hR, hG⟩
theorem markIntA2S_own {A : Option Addr} {n c base : Nat} {t : TypeId} {xs : List Value} {k : Int} {w : World} (h : w.ownsRow base t 2 (.slice A n c) n xs) (hn : n ≤ 1048576) (hk : 0 ≤ k ∧ k ≤ 1152921504606846976) :
    Calls Try.prog 29 #[.slice A n c, .int .i64 k] w fun e w' => e = .returned (.int .i64 (k + (n : Int) * 2)) ∧ w'.ownsRow base t 2 (.slice A n c) n (ints (marks k (n * 2))) ∧ w.grownBy w' (Value.slice A n c).ownBlock := by
  rcases own_bk h with ⟨hv, rfl⟩ | ⟨g, cap, cs, hv, hb, hB, h1, h2, h3, h4⟩
  · simp only [Value.slice.injEq] at hv
    obtain ⟨rfl, _, rfl⟩ := hv
    obtain ⟨k0, k1⟩ := hk
    go_enter Try.func29, Try.ntmps29
    go_wp2
    refine wp_loop_rounds 1 ?_
    rw [rounds_succ]
    go_wp2
    go_ret
    exact ⟨by simp, by simpa [marks, ints] using World.ownsRow_nil w base t 2, World.grownBy.refl w _⟩
  · simp only [Value.slice.injEq] at hv
    obtain ⟨rfl, _, rfl⟩ := hv
    have h5 : n * 2 ≤ cs.length := by rw [h3]; exact Nat.mul_le_mul_right _ h1
    refine (markIntA2S_any g n c t cs k w hB h5 hn hk).mono ?_
    rintro e w' ⟨rfl, hB', hG⟩
    exact ⟨rfl, bk_own hb hB' h1 h2 (by simp [ints, marks]; omega) (by rw [List.take_append_of_le_length (by simp [ints, marks])]; exact List.take_of_length_le (by simp [ints, marks])), hG⟩
theorem heldIntA2S_any (A : Option Addr) (n c : Nat) (k : Int) (w : World) (hr : Rd w 2 A n (ints (marks k (n * 2)))) (hn : n ≤ 1048576) (hk : 0 ≤ k ∧ k ≤ 1152921504606846976) :
    Calls Try.prog 30 #[.slice A n c, .int .i64 k] w fun e w' => e = .returned (.int .i64 (k + (n : Int) * 2)) ∧ Below w.heap.size w w' := by
  obtain ⟨k0, k1⟩ := hk
  go_enter Try.func30, Try.ntmps30
  go_wp2
  go_loop [1, 5] (fun kk i => ∃ j : Nat, j ≤ n ∧ i = .int .i64 j ∧ kk = .int .i64 (k + (j : Int) * 2)) (fun _ i => n - (intOf i).toNat)
  case atStart => exact ⟨0, Nat.zero_le _, rfl, by simp⟩
  case round =>
    obtain ⟨j, hj, rfl, rfl⟩ := hrel
    by_cases hlt : j < n
    · obtain ⟨b, off, rfl, hbl, hc⟩ := hr.2 (by omega)
      have hg : ∀ i, i < 2 → w.cell? ⟨b, off + j * 2 + i, none⟩ = some (.int .i64 (k + ((j * 2 + i : Nat) : Int))) := fun i hi => by
        rw [← marks_get k (n * 2) (j * 2 + i) (by omega), Nat.add_assoc]
        exact hc _ _ (ints_get (marks k (n * 2)) (j * 2 + i) (by rw [marks_length]; omega))
      have g0 := hg 0 (by omega)
      have g1 := hg 1 (by omega)
      rw [show k + ((j * 2 + 0 : Nat) : Int) = k + (j : Int) * 2 from by omega] at g0
      rw [show k + ((j * 2 + 1 : Nat) : Int) = k + (j : Int) * 2 + 1 from by omega] at g1
      simp only [Nat.add_zero] at g0
      have h1 : (k + (j : Int) * 2 != k + (j : Int) * 2) = false := by simp
      have h2 : (k + (j : Int) * 2 + 1 != k + (j : Int) * 2 + 1) = false := by simp
      clear hc hg
      go_wp2_with fail
      refine wp_loop_rounds 3 ?_
      rw [rounds_succ]
      go_wp2
      rw [rounds_succ]
      go_wp2
      rw [rounds_succ]
      go_wp2
      go_round
      case rel => exact ⟨j + 1, by omega, by go_num, by go_num⟩
      case measure => simp [intOf]; omega
    · go_wp2
      go_ret
      have e : j = n := by omega
      subst e
      exact ⟨rfl, Below.refl _ _⟩
end Go.Proofs.Ythgabapegpndnaa
