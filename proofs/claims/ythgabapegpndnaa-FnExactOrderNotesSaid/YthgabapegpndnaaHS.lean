/-
  Whether a pair is among pairs. Conditions: the length of a slice.
-/
import Derived.Test.YthgabapegpndnaaAE
namespace Go.Proofs.Ythgabapegpndnaa
open Go.RowKit
set_option maxRecDepth 100000
set_option maxHeartbeats 2000000

theorem IndexPr_is (A : Option Addr) (n c : Nat) (zs : List PairT) (x y : Int) (w : World) (hr : Rd w 2 A n (prF zs)) (hl : zs.length = n) (hn : n ≤ 1000000) :
    Calls Try.prog 83 #[.slice A n c, .agg #[.int .i64 x, .int .i64 y]] w fun e w' => ∃ v : Int, e = .returned (.int .i64 v) ∧ (decide (0 ≤ v) = decide ((x, y) ∈ zs)) ∧ Below w.heap.size w w' := by
  go_enter Try.func83, Try.ntmps83
  go_upto_region 1 with fail
  refine wp_gen (fun w0 => Bk w0 w.heap.size 55 [.int .i64 x, .int .i64 y] ∧ Below w.heap.size w w0) ⟨Bk.new' rfl, by (repeat' (first | (with_reducible exact Below.refl _ _) | (with_reducible assumption) | (with_reducible refine balloc ?_ _) | (with_reducible refine bdrew ?_) | (with_reducible refine bdrewN ?_ _) | (with_reducible refine bstep ?_ (by assumption)) | (with_reducible refine bset ?_ ?_ _) | (exact Below.size (by assumption)) | go_size))⟩ ?_
  intro w0 ⟨hX, b0⟩
  have HX := Lib.hid hX
  clear hX
  go_wp2_with fail
  go_loopw [8] (fun i wr => ∃ k : Nat, k ≤ n ∧ i = .int .i64 k ∧ Hid ((x, y) ∉ zs.take k) ∧ Hid (Bk wr w.heap.size 55 [.int .i64 x, .int .i64 y]) ∧ Below w.heap.size w wr) (fun i _ => n - (intOf i).toNat)
  case atStart => exact ⟨0, Nat.zero_le _, rfl, Lib.hid (by simp), HX, b0⟩
  case round =>
    obtain ⟨k, hk, rfl, HN, HB, hW⟩ := hrel
    by_cases hlt : k < n
    · obtain ⟨b, off, rfl, hbl, a, d, h1, c0, c1⟩ := pr_at hr hW hl hlt
      have s1 : b < wr.heap.size := Nat.lt_of_lt_of_le hbl hW.size
      obtain ⟨x0, x1, xl⟩ := two_cells HB.out
      have i1 : (0 : Int) ≤ (k : Int) := by omega
      have i2 : (k : Int) < (n : Int) := by omega
      have H1 := Lib.hid h1
      clear h1
      have hg := fun (W : World) => guardPr (.tmp 11) (.tmp 15) #[.int .i64 x, .int .i64 y] #[.int .i64 a, .int .i64 d] W
      by_cases he : x = a ∧ y = d
      · obtain ⟨rfl, rfl⟩ := he
        have hq := fun (W : World) => eqlPr x y x y true (by simp) W
        go_wp2
        (refine wp_region_bel (by kernel_rfl) (by kernel_rfl) ?_; (repeat (go_big_quiet_step ((first | fail)))); refine wpQuiet_nil ?_; intro w' hw'; have hb := below_of hw'; clear hw'; (try clear cW fW zW); (first | (have bW := bstep bW hb) | (have bW := bstep (bdrew bW) hb) | (have bW := bstep (balloc bW _) hb) | (have bW := bstep (bdrewN bW _) hb) | (have bW := hb)); clear hb; obtain ⟨cW, fW⟩ := bcell bW; have zW := bsize bW)
        go_wp2
        go_returns
        refine ⟨_, rfl, ?_, by (repeat' (first | (with_reducible exact Below.refl _ _) | (with_reducible assumption) | (with_reducible refine balloc ?_ _) | (with_reducible refine bdrew ?_) | (with_reducible refine bdrewN ?_ _) | (with_reducible refine bstep ?_ (by assumption)) | (with_reducible refine bset ?_ ?_ _) | (exact Below.size (by assumption)) | go_size))⟩
        have hm : (x, y) ∈ zs := by rw [← H1.out]; exact List.getElem_mem _
        rw [decide_eq_true hm, decide_eq_true (by omega)]
      · have hq := fun (W : World) => eqlPr x y a d false (by simpa using he) W
        have HE := Lib.hid he
        clear he
        go_wp2
        (refine wp_region_bel (by kernel_rfl) (by kernel_rfl) ?_; (repeat (go_big_quiet_step ((first | fail)))); refine wpQuiet_nil ?_; intro w' hw'; have hb := below_of hw'; clear hw'; (try clear cW fW zW); (first | (have bW := bstep bW hb) | (have bW := bstep (bdrew bW) hb) | (have bW := bstep (balloc bW _) hb) | (have bW := bstep (bdrewN bW _) hb) | (have bW := hb)); clear hb; obtain ⟨cW, fW⟩ := bcell bW; have zW := bsize bW)
        go_wp2
        go_roundw
        case rel =>
          refine ⟨k + 1, by omega, by go_num, Lib.hid ?_, Lib.hid (HB.out.below bW HB.out.lt), by (repeat' (first | (with_reducible exact Below.refl _ _) | (with_reducible assumption) | (with_reducible refine balloc ?_ _) | (with_reducible refine bdrew ?_) | (with_reducible refine bdrewN ?_ _) | (with_reducible refine bstep ?_ (by assumption)) | (with_reducible refine bset ?_ ?_ _) | (exact Below.size (by assumption)) | go_size))⟩
          rw [List.take_succ_eq_append_getElem (by omega), H1.out, List.mem_append, List.mem_singleton, Prod.mk.injEq]
          exact fun h => h.elim HN.out HE.out
        case measure => simp [intOf]; omega
    · have e : k = n := by omega
      have h2 := HN.out
      rw [List.take_of_length_le (by omega)] at h2
      have H2 := Lib.hid h2
      clear h2
      go_wp2
      go_returns
      exact ⟨_, rfl, by rw [decide_eq_false H2.out]; rfl, hW⟩
theorem hasPr_is {v : Bool} {A : Option Addr} {n c : Nat} {zs : List PairT} {x y : Int} (hv : decide ((x, y) ∈ zs) = v) (w : World) (hr : Rd w 2 A n (prF zs)) (hl : zs.length = n) (hn : n ≤ 1000000) :
    Calls Try.prog 68 #[.slice A n c, .agg #[.int .i64 x, .int .i64 y]] w fun e w' => e = .returned (.bool v) ∧ Below w.heap.size w w' := by
  have HV := Lib.hid hv
  clear hv
  have hC : ∀ W, Below w.heap.size w W → Calls Try.prog 77 #[.slice A n c, .agg #[.int .i64 x, .int .i64 y]] W fun e w' => e = .returned (.bool v) ∧ Below W.heap.size W w' := by
    intro W hW
    go_enter Try.func77, Try.ntmps77
    go_wp2_with fail
    refine (IndexPr_is A n c zs x y _ (hr.below (bstep hW (balloc (Below.refl _ _) _))) hl hn).mono ?_
    rintro e w1 ⟨u, rfl, hu, b1⟩
    rw [HV.out] at hu
    rcases v with _ | _
    · go_wp2
      go_returns
      exact ⟨by first | rfl | (rw [hu]) | (simp [*]), bstep (by (repeat' (first | (with_reducible exact Below.refl _ _) | (with_reducible assumption) | (with_reducible refine balloc ?_ _) | (with_reducible refine bdrew ?_) | (with_reducible refine bdrewN ?_ _) | (with_reducible refine bstep ?_ (by assumption)) | (with_reducible refine bset ?_ ?_ _) | (exact Below.size (by assumption)) | go_size))) b1⟩
    · go_wp2
      go_returns
      exact ⟨by first | rfl | (rw [hu]) | (simp [*]), bstep (by (repeat' (first | (with_reducible exact Below.refl _ _) | (with_reducible assumption) | (with_reducible refine balloc ?_ _) | (with_reducible refine bdrew ?_) | (with_reducible refine bdrewN ?_ _) | (with_reducible refine bstep ?_ (by assumption)) | (with_reducible refine bset ?_ ?_ _) | (exact Below.size (by assumption)) | go_size))) b1⟩
  go_enter Try.func68, Try.ntmps68
  go_wp2_with fail
  refine (hC _ (by (repeat' (first | (with_reducible exact Below.refl _ _) | (with_reducible assumption) | (with_reducible refine balloc ?_ _) | (with_reducible refine bdrew ?_) | (with_reducible refine bdrewN ?_ _) | (with_reducible refine bstep ?_ (by assumption)) | (with_reducible refine bset ?_ ?_ _) | (exact Below.size (by assumption)) | go_size)))).mono ?_
  rintro e w1 ⟨rfl, b1⟩
  go_wp2
  go_returns
  exact ⟨rfl, bstep (by (repeat' (first | (with_reducible exact Below.refl _ _) | (with_reducible assumption) | (with_reducible refine balloc ?_ _) | (with_reducible refine bdrew ?_) | (with_reducible refine bdrewN ?_ _) | (with_reducible refine bstep ?_ (by assumption)) | (with_reducible refine bset ?_ ?_ _) | (exact Below.size (by assumption)) | go_size))) b1⟩
end Go.Proofs.Ythgabapegpndnaa
