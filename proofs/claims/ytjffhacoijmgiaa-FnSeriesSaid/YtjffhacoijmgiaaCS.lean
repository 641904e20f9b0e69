/-
  The situation chapter's draw of a series. Conditions: a cursor that has drawn less than 2^48 times.
-/
import Derived.Test.YtjffhacoijmgiaaCF
import Derived.Test.YtjffhacoijmgiaaRW
import Derived.Test.YtjffhacoijmgiaaZB
namespace Go.Proofs.Ytjffhacoijmgiaa
open Go Go.RowKit
set_option maxRecDepth 100000
set_option maxHeartbeats 8000000

def slN : Value → Nat
  | .slice _ n _ => n
  | _ => 0
def sitI (z : SituationT) : Prop := I64 z.1 ∧ I64 z.2.1 ∧ I64 z.2.2.1 ∧ I64 z.2.2.2.1 ∧ I64 z.2.2.2.2.1 ∧ I64 z.2.2.2.2.2
theorem situation_ats (X : DX) (B id : Int) (w : World) (hX : X.base ≤ w.heap.size) (hC : Cur w X B) (hB : B ≤ 562949953421312) (hid : -9223372036854775808 ≤ id ∧ id ≤ 9223372036854775807) :
    Calls Try.prog 26 #[.pointer (some ⟨X.g, 0, none⟩), .int .i64 id] w fun e w' => ∃ a b c d f h, e = .returned (.agg #[.int .i64 a, .int .i64 b, .int .i64 c, .int .i64 d, .int .i64 f, .int .i64 h]) ∧ w.grownBy w' (some X.g) ∧ Cur w' X (B + 64) ∧ sitI (a, b, c, d, f, h) := by
  refine (situation_ty { X with base := w.heap.size } B id w rfl (hC.rebase hX) hB hid).mono ?_
  rintro e w' ⟨v, rfl, hg, hC', zs, rfl, hl, hz⟩
  match zs, hl with
  | [a, b, c, d, f, h], _ => exact ⟨a, b, c, d, f, h, rfl, hg, hC'.unbase hC.ne, hz a (by simp), hz b (by simp), hz c (by simp), hz d (by simp), hz f (by simp), hz h (by simp)⟩
theorem own_some {w : World} {base k n : Nat} {t : TypeId} {v : Value} {xs : List Value} (h : w.ownsRow base t k v n xs) (hn : 0 < n) : ∃ b c, v = .slice (some ⟨b, 0, none⟩) n c ∧ base ≤ b := by
  rcases own_bk h with ⟨_, rfl⟩ | ⟨g, cap, cs, rfl, hb, _⟩
  · omega
  · exact ⟨g, cap, rfl, hb⟩
theorem own_set6 {w : World} {base n b c : Nat} {t : TypeId} {zs : List SituationT} (x0 x1 x2 x3 x4 x5 : Int) (h : w.ownsRow base t 6 (.slice (some ⟨b, 0, none⟩) n c) n (sitF zs)) (hl : zs.length = n) (hn : 0 < n) :
    ((((((w.setCell ⟨b, 0, none⟩ (.int .i64 x0)).setCell ⟨b, 1, none⟩ (.int .i64 x1)).setCell ⟨b, 2, none⟩ (.int .i64 x2)).setCell ⟨b, 3, none⟩ (.int .i64 x3)).setCell ⟨b, 4, none⟩ (.int .i64 x4)).setCell ⟨b, 5, none⟩ (.int .i64 x5)).ownsRow base t 6 (.slice (some ⟨b, 0, none⟩) n c) n (sitF (zs.set 0 (x0, x1, x2, x3, x4, x5))) := by
  rcases own_bk h with ⟨h1, _⟩ | ⟨g', cap, cs, hv, hb', hB', h1, h2, h3, h4⟩
  · cases h1
  · cases hv
    match zs, hl with
    | [], hl => simp at hl; omega
    | z :: zr, hl =>
      match cs, h3, h4, hB' with
      | c0 :: c1 :: c2 :: c3 :: c4 :: c5 :: cr, h3, h4, hB' =>
        have hk := Bk.set_ (Bk.set_ (Bk.set_ (Bk.set_ (Bk.set_ (Bk.set_ hB' 0 (.int .i64 x0)) 1 (.int .i64 x1)) 2 (.int .i64 x2)) 3 (.int .i64 x3)) 4 (.int .i64 x4)) 5 (.int .i64 x5)
        refine bk_own hb' hk h1 h2 (by simpa using h3) ?_
        obtain ⟨m, rfl⟩ : ∃ m, n = m + 1 := ⟨n - 1, by omega⟩
        rw [show (m + 1) * 6 = m * 6 + 1 + 1 + 1 + 1 + 1 + 1 by omega] at h4 ⊢
        simp [sitF, sitE] at h4 ⊢
        exact h4.2.2.2.2.2.2
      | [], h3, _, _ => simp at h3; omega
      | [_], h3, _, _ => simp at h3; omega
      | [_, _], h3, _, _ => simp at h3; omega
      | [_, _, _], h3, _, _ => simp at h3; omega
      | [_, _, _, _], h3, _, _ => simp at h3; omega
      | [_, _, _, _, _], h3, _, _ => simp at h3; omega
theorem own_blk {w : World} {base k n b c : Nat} {t : TypeId} {xs : List Value} (h : w.ownsRow base t k (.slice (some ⟨b, 0, none⟩) n c) n xs) : (∃ cs, Bk w b t cs) ∧ base ≤ b := by
  rcases own_bk h with ⟨h1, _⟩ | ⟨g', cap, cs, hv, hb', hB', _⟩
  · cases h1
  · cases hv; exact ⟨⟨cs, hB'⟩, hb'⟩
theorem own_frozen {w : World} {base k n b c : Nat} {t : TypeId} {xs : List Value} (h : w.ownsRow base t k (.slice (some ⟨b, 0, none⟩) n c) n xs) (j : Nat) : w.frozen? ⟨b, j, none⟩ = false := by
  obtain ⟨⟨cs, hB⟩, _⟩ := own_blk h
  exact hB.frozen j
theorem sit_agg (a b c d f h : Int) : (Value.agg #[.int .i64 a, .int .i64 b, .int .i64 c, .int .i64 d, .int .i64 f, .int .i64 h]).cells = #[.int .i64 a, .int .i64 b, .int .i64 c, .int .i64 d, .int .i64 f, .int .i64 h] := rfl
theorem series18_ty (X : DX) (B : Int) (w : World) (hX : X.base = w.heap.size) (hC : Cur w X B) (hB : B ≤ 281474976710656) :
    Calls Try.prog 23 #[.pointer (some ⟨X.g, 0, none⟩)] w fun e w' => ∃ v n zs, e = .returned v ∧ w.grownBy w' (some X.g) ∧ Cur w' X (B + 4096) ∧ w'.ownsRow X.base 26 6 v n (sitF zs) ∧ (∃ b c, v = .slice (some ⟨b, 0, none⟩) n c) ∧ zs.length = n ∧ n ≤ 64 ∧ ∀ z ∈ zs, sitI z := by
  obtain ⟨i0, hi0, hz0, hz1, hz2⟩ := info_parts (show (Try.prog.info? 26).map (fun i => (i.zero, i.size, i.bytes)) = some (some (.agg #[.int .i64 0, .int .i64 0, .int .i64 0, .int .i64 0, .int .i64 0, .int .i64 0]), 6, 48) from by kernel_rfl)
  have hgl := cur_lt hC hX
  have hgw : X.g < w.heap.size := hC.lt
  have hGr : w.grownBy w (some X.g) := gb_refl _ _
  go_enter Try.func23, Try.ntmps23
  go_upto_region 3 with fail
  obtain ⟨d4, hd4⟩ : ∃ d, d = w.heap.size + 1 := ⟨_, rfl⟩
  have nd4 : d4 ≠ X.g := by omega
  have hA4 : 0 < X.n → ∀ a, X.A = some a → a.block ≠ d4 := fun h0 a ha => by have := (hC.ne h0 a ha).1; omega
  go_upto_region 4 with (go_at_call 35; refine (pick_ty X _ _ 7 _ ((hC.alloc _).alloc _) (by omega) (by omega) (by omega) (by omega)).mono ?_; rintro e w' ⟨v, rfl, hg, hC, x, rfl, x0, x1⟩; have hGr := (gb_alloc (gb_alloc hGr _) _).trans hg; have hO := own_grown (own_alloc (own_lit' (k := 6) (t := 26) (base := w.heap.size) (w := w) rfl (Nat.le_refl _)) _) hg (by omega); have gd4 : Good w' d4 26 6 := good_gr (Good.lit' (by simp; omega) (by simp) (by simp [sm_int])) nd4 hg)
  rw [show w.heap.size + 1 = d4 from hd4.symm]
  have d4lo : w.heap.size < d4 := by omega
  clear hd4
  go_loopw [3, 5] (fun v i wr => ∃ (j : Int) (zs : List SituationT), i = .int .i64 j ∧ 0 ≤ j ∧ j ≤ 7 ∧ (zs.length : Int) + j ≤ 7 ∧ w.grownBy wr (some X.g) ∧ Cur wr X (B + 2 + 128 * (7 - j)) ∧ Good wr d4 26 6 ∧ wr.ownsRow w.heap.size 26 6 v zs.length (sitF zs) ∧ (∀ b, v.ownBlock = some b → b ≠ d4) ∧ (∃ b c, v = .slice (some ⟨b, 0, none⟩) zs.length c) ∧ ∀ z ∈ zs, sitI z) (fun _ i _ => (intOf i).toNat)
  case atStart => exact ⟨x, [], rfl, x0, x1, by simpa using x1, hGr, hC.le (by omega), gd4, by simpa [sitF] using hO, fun b e => by cases e; simp only; omega, ⟨_, _, rfl⟩, by simp⟩
  case round =>
    obtain ⟨j, zs, rfl, j0, j1, jl, hGr, hC, gd4, hO, hrb, hsl, hz⟩ := hrel
    have hwr := hGr.size
    have gd4l := gd4.lt
    have ad4 := hA4
    by_cases hj : 0 < j
    · have i1 : decide (0 < j) = true := decide_eq_true hj
      go_upto_region 6 with fail
      have bud : ∀ k : Nat, k < 8 → B + 2 + 128 * (7 - j) + 2 * (k : Int) ≤ 562949953421312 := fun k hk => by omega
      refine wp_region_inv (Le := Lx X.g [d4] wr.heap.size) (G := GG X [d4] wr (B + 2 + 128 * (7 - j)) (2)) 96 [([], [true, true, true, true, true, true, true, true, true, true, true, true, true, true, true, false, false, false, false, false, false, true, true, true, true, true, true, true, true, true, true, true, true, true, true, true, true, true, true, true, true, true, true, true, true, true, true, true, true, true, true, true, true, true, true, true, true, true, true, true, true, true, true, true, true, true, true, true, true, true, true, true, true, true, true, true, true, true, true, true, true, true, true, true, true, true, true, true, true, true, true, true, true, true, true, true]), ([0], [true, true, true, true, true, true, true, true, true, true, true, true, true, true, false, true, false, false, false, false, false, true, true, true, true, true, true, true, true, true, true, true, true, true, true, true, true, true, true, true, true, true, true, true, true, true, true, true, true, true, true, true, true, true, true, true, true, true, true, true, true, true, true, true, true, true, true, true, true, true, true, true, true, true, true, true, true, true, true, true, true, true, true, true, true, true, true, true, true, true, true, true, true, true, true, true]), ([1], [true, true, true, true, true, true, true, true, true, true, true, true, true, true, false, false, true, false, false, false, false, true, true, true, true, true, true, true, true, true, true, true, true, true, true, true, true, true, true, true, true, true, true, true, true, true, true, true, true, true, true, true, true, true, true, true, true, true, true, true, true, true, true, true, true, true, true, true, true, true, true, true, true, true, true, true, true, true, true, true, true, true, true, true, true, true, true, true, true, true, true, true, true, true, true, true]), ([], [true, true, true, true, true, true, true, true, true, true, true, true, true, true, false, false, false, true, false, false, false, true, true, true, true, true, true, true, true, true, true, true, true, true, true, true, true, true, true, true, true, true, true, true, true, true, true, true, true, true, true, true, true, true, true, true, true, true, true, true, true, true, true, true, true, true, true, true, true, true, true, true, true, true, true, true, true, true, true, true, true, true, true, true, true, true, true, true, true, true, true, true, true, true, true, true]), ([3], [true, true, true, true, true, true, true, true, true, true, true, true, true, true, false, false, false, false, true, false, false, true, true, true, true, true, true, true, true, true, true, true, true, true, true, true, true, true, true, true, true, true, true, true, true, true, true, true, true, true, true, true, true, true, true, true, true, true, true, true, true, true, true, true, true, true, true, true, true, true, true, true, true, true, true, true, true, true, true, true, true, true, true, true, true, true, true, true, true, true, true, true, true, true, true, true]), ([2, 4], [true, true, true, true, true, true, true, true, true, true, true, true, true, true, false, false, false, false, false, true, false, true, true, true, true, true, true, true, true, true, true, true, true, true, true, true, true, true, true, true, true, true, true, true, true, true, true, true, true, true, true, true, true, true, true, true, true, true, true, true, true, true, true, true, true, true, true, true, true, true, true, true, true, true, true, true, true, true, true, true, true, true, true, true, true, true, true, true, true, true, true, true, true, true, true, true]), ([], [true, true, true, true, true, true, true, true, true, true, true, true, true, true, false, false, false, false, false, false, true, true, true, true, true, true, true, true, true, true, true, true, true, true, true, true, true, true, true, true, true, true, true, true, true, true, true, true, true, true, true, true, true, true, true, true, true, true, true, true, true, true, true, true, true, true, true, true, true, true, true, true, true, true, true, true, true, true, true, true, true, true, true, true, true, true, true, true, true, true, true, true, true, true, true, true]), ([6, 5], [true, true, true, true, true, true, true, true, true, true, true, true, true, true, false, false, false, false, false, false, false, true, true, true, true, true, true, true, true, true, true, true, true, true, true, true, true, true, true, true, true, true, true, true, true, true, true, true, true, true, true, true, true, true, true, true, true, true, true, true, true, true, true, true, true, true, true, true, true, true, true, true, true, true, true, true, true, true, true, true, true, true, true, true, true, true, true, true, true, true, true, true, true, true, true, true])] [true, true, true, true, true, true, true, true, true, true, true, true, true, true, false, false, false, false, false, false, false, true, true, true, true, true, true, true, true, true, true, true, true, true, true, true, true, true, true, true, true, true, true, true, true, true, true, true, true, true, true, true, true, true, true, true, true, true, true, true, true, true, true, true, true, true, true, true, true, true, true, true, true, true, true, true, true, true, true, true, true, true, true, true, true, true, true, true, true, true, true, true, true, true, true, true] (by kernel_rfl) (by rfl) (by kernel_rfl) ⟨⟨rfl, rfl, rfl, Nat.le_refl _, fun _ _ _ _ _ => rfl, fun _ _ _ _ _ h => h⟩, hC.drew.le (by omega)⟩ ?_
      refine wpK_cons (isV (Value.pointer (some ⟨d4, 0, none⟩))) (fun V w k hk hG hD => ?_) (st_V _) ?_
      · obtain ⟨-⟩ := hD
        simp only [actT, maskT, Nat.reduceAdd, if_true, if_false, Bool.false_eq_true]
        go_wp2_with fail
        exact DP_mk (rv_same (by omega) hG rfl)
      refine wpK_cons (isI (-9223372036854775808) 9223372036854775807) (fun V w k hk hG hD => ?_) (st_I _ _) ?_
      · obtain ⟨f14, -⟩ := hD
        simp only [actT, maskT, Nat.reduceAdd, if_true, if_false, Bool.false_eq_true]
        rw [show V 14 = Value.pointer (some ⟨d4, 0, none⟩) from f14]
        have gk := hG.le.good d4 _ _ (.inr (by simp)) nd4 gd4
        obtain ⟨y0, cy0, l0, h0⟩ := gk.cell (j := 0) (by omega)
        have gl := gk.lt
        go_wp2_with fail
        exact DP_mk (rv_same (by omega) hG ⟨_, rfl, l0, h0⟩)
      refine wpK_cons (isI (-9223372036854775808) 9223372036854775807) (fun V w k hk hG hD => ?_) (st_I _ _) ?_
      · obtain ⟨f15, -⟩ := hD
        simp only [actT, maskT, Nat.reduceAdd, if_true, if_false, Bool.false_eq_true]
        obtain ⟨x15, e15, p15, q15⟩ := f15
        rw [e15]
        go_wp2_with fail
        exact DP_mk (rv_same (by omega) hG ⟨_, rfl, by first | exact (wrap64_bd _).1 | omega, by first | exact (wrap64_bd _).2 | omega⟩)
      refine wpK_cons (isV ((Value.pointer (some ⟨X.g, 0, none⟩)))) (fun V w k hk hG hD => ?_) (st_V _) ?_
      · obtain ⟨-⟩ := hD
        simp only [actT, maskT, Nat.reduceAdd, if_true, if_false, Bool.false_eq_true]
        go_wp2_with fail
        exact DP_mk (rv_same (by omega) hG rfl)
      refine wpK_cons (isI 0 2) (fun V w k hk hG hD => ?_) (st_I _ _) ?_
      · obtain ⟨f17, -⟩ := hD
        simp only [actT, maskT, Nat.reduceAdd, if_true, if_false, Bool.false_eq_true]
        rw [show V 17 = (Value.pointer (some ⟨X.g, 0, none⟩)) from f17]
        go_wp2_with (go_at_call 35; refine (pick_ty _ _ _ 2 _ hG.cur (by have := bud k hk; omega) (by omega) (by omega) (by omega)).mono ?_; rintro e w' ⟨v, rfl, hg, hC, hd⟩)
        exact DP_mk (rv_call (by omega) hG hg hC hd)
      refine wpK_cons (isI (-9223372036854775808) 9223372036854775807) (fun V w k hk hG hD => ?_) (st_I _ _) ?_
      · obtain ⟨f16, f18, -⟩ := hD
        simp only [actT, maskT, Nat.reduceAdd, if_true, if_false, Bool.false_eq_true]
        obtain ⟨x16, e16, p16, q16⟩ := f16
        rw [e16]
        obtain ⟨x18, e18, p18, q18⟩ := f18
        rw [e18]
        go_wp2_with fail
        exact DP_mk (rv_same (by omega) hG ⟨_, rfl, by first | exact (wrap64_bd _).1 | omega, by first | exact (wrap64_bd _).2 | omega⟩)
      refine wpK_cons (isV (Value.pointer (some ⟨d4, 0, none⟩))) (fun V w k hk hG hD => ?_) (st_V _) ?_
      · obtain ⟨-⟩ := hD
        simp only [actT, maskT, Nat.reduceAdd, if_true, if_false, Bool.false_eq_true]
        go_wp2_with fail
        exact DP_mk (rv_same (by omega) hG rfl)
      refine wpK_cons (isT) (fun V w k hk hG hD => ?_) (st_T) ?_
      · obtain ⟨f20, f19, -⟩ := hD
        simp only [actT, maskT, Nat.reduceAdd, if_true, if_false, Bool.false_eq_true]
        rw [show V 20 = Value.pointer (some ⟨d4, 0, none⟩) from f20]
        obtain ⟨x19, e19, p19, q19⟩ := f19
        rw [e19]
        have gk := hG.le.good d4 _ _ (.inr (by simp)) nd4 gd4
        obtain ⟨y0, cy0, -, -⟩ := gk.cell (j := 0) (by omega)
        have fy0 := gk.frozen 0
        have gl := gk.lt
        go_wp2_with fail
        exact DP_mk (v := undef) (rv_set (R := isT) (by omega) hG (by simp) nd4 ad4 (sm_int.2 ⟨by omega, by omega⟩) trivial)
      refine wpK_nil (fun V W hG hD => ?_)
      obtain ⟨f14, f15, f16, f17, f18, f19, f20, f_7, -⟩ := hD
      simp only [actT, maskT, Nat.reduceAdd, if_true, if_false, Bool.false_eq_true]
      clear bud
      have hGr := lx_grown hGr hG.le (fun b hb => by simp at hb; omega) (by omega)
      have hC : Cur W X (B + 2 + 128 * (7 - j) + 16) := hG.cur.le (show B + 2 + 128 * (7 - j) + 2 * ((8 : Nat) : Int) ≤ B + 2 + 128 * (7 - j) + 16 by omega)
      have hO := own_lx hO hG.le (fun b e => ⟨by simp; exact hrb b e, own_ne hO hgw b e⟩)
      have gd4 := hG.le.good d4 _ _ (.inr (by simp)) nd4 gd4
      have gd4l := gd4.lt
      have hwr := hGr.size
      clear hG f14 f15 f16 f17 f18 f19 f20 f_7
      go_upto_region 7 with fail
      have bud : ∀ k : Nat, k < 8 → B + 2 + 128 * (7 - j) + 16 + 2 * (k : Int) ≤ 562949953421312 := fun k hk => by omega
      refine wp_region_inv (Le := Lx X.g [d4] W.heap.size) (G := GG X [d4] W (B + 2 + 128 * (7 - j) + 16) (2)) 96 [([], [true, true, true, true, true, true, true, true, true, true, true, true, true, true, true, true, true, true, true, true, true, true, false, false, false, false, false, false, true, true, true, true, true, true, true, true, true, true, true, true, true, true, true, true, true, true, true, true, true, true, true, true, true, true, true, true, true, true, true, true, true, true, true, true, true, true, true, true, true, true, true, true, true, true, true, true, true, true, true, true, true, true, true, true, true, true, true, true, true, true, true, true, true, true, true, true]), ([0], [true, true, true, true, true, true, true, true, true, true, true, true, true, true, true, true, true, true, true, true, true, false, true, false, false, false, false, false, true, true, true, true, true, true, true, true, true, true, true, true, true, true, true, true, true, true, true, true, true, true, true, true, true, true, true, true, true, true, true, true, true, true, true, true, true, true, true, true, true, true, true, true, true, true, true, true, true, true, true, true, true, true, true, true, true, true, true, true, true, true, true, true, true, true, true, true]), ([], [true, true, true, true, true, true, true, true, true, true, true, true, true, true, true, true, true, true, true, true, true, false, false, true, false, false, false, false, true, true, true, true, true, true, true, true, true, true, true, true, true, true, true, true, true, true, true, true, true, true, true, true, true, true, true, true, true, true, true, true, true, true, true, true, true, true, true, true, true, true, true, true, true, true, true, true, true, true, true, true, true, true, true, true, true, true, true, true, true, true, true, true, true, true, true, true]), ([], [true, true, true, true, true, true, true, true, true, true, true, true, true, true, true, true, true, true, true, true, true, false, false, false, true, false, false, false, true, true, true, true, true, true, true, true, true, true, true, true, true, true, true, true, true, true, true, true, true, true, true, true, true, true, true, true, true, true, true, true, true, true, true, true, true, true, true, true, true, true, true, true, true, true, true, true, true, true, true, true, true, true, true, true, true, true, true, true, true, true, true, true, true, true, true, true]), ([2, 3], [true, true, true, true, true, true, true, true, true, true, true, true, true, true, true, true, true, true, true, true, true, false, false, false, false, true, false, false, true, true, true, true, true, true, true, true, true, true, true, true, true, true, true, true, true, true, true, true, true, true, true, true, true, true, true, true, true, true, true, true, true, true, true, true, true, true, true, true, true, true, true, true, true, true, true, true, true, true, true, true, true, true, true, true, true, true, true, true, true, true, true, true, true, true, true, true]), ([1, 4], [true, true, true, true, true, true, true, true, true, true, true, true, true, true, true, true, true, true, true, true, true, false, false, false, false, false, true, false, true, true, true, true, true, true, true, true, true, true, true, true, true, true, true, true, true, true, true, true, true, true, true, true, true, true, true, true, true, true, true, true, true, true, true, true, true, true, true, true, true, true, true, true, true, true, true, true, true, true, true, true, true, true, true, true, true, true, true, true, true, true, true, true, true, true, true, true]), ([], [true, true, true, true, true, true, true, true, true, true, true, true, true, true, true, true, true, true, true, true, true, false, false, false, false, false, false, true, true, true, true, true, true, true, true, true, true, true, true, true, true, true, true, true, true, true, true, true, true, true, true, true, true, true, true, true, true, true, true, true, true, true, true, true, true, true, true, true, true, true, true, true, true, true, true, true, true, true, true, true, true, true, true, true, true, true, true, true, true, true, true, true, true, true, true, true]), ([6, 5], [true, true, true, true, true, true, true, true, true, true, true, true, true, true, true, true, true, true, true, true, true, false, false, false, false, false, false, false, true, true, true, true, true, true, true, true, true, true, true, true, true, true, true, true, true, true, true, true, true, true, true, true, true, true, true, true, true, true, true, true, true, true, true, true, true, true, true, true, true, true, true, true, true, true, true, true, true, true, true, true, true, true, true, true, true, true, true, true, true, true, true, true, true, true, true, true])] [true, true, true, true, true, true, true, true, true, true, true, true, true, true, true, true, true, true, true, true, true, false, false, false, false, false, false, false, true, true, true, true, true, true, true, true, true, true, true, true, true, true, true, true, true, true, true, true, true, true, true, true, true, true, true, true, true, true, true, true, true, true, true, true, true, true, true, true, true, true, true, true, true, true, true, true, true, true, true, true, true, true, true, true, true, true, true, true, true, true, true, true, true, true, true, true] (by kernel_rfl) (by rfl) (by kernel_rfl) ⟨⟨rfl, rfl, rfl, Nat.le_refl _, fun _ _ _ _ _ => rfl, fun _ _ _ _ _ h => h⟩, hC.drew.le (by omega)⟩ ?_
      refine wpK_cons (isV (Value.pointer (some ⟨d4, 1, none⟩))) (fun V w k hk hG hD => ?_) (st_V _) ?_
      · obtain ⟨-⟩ := hD
        simp only [actT, maskT, Nat.reduceAdd, if_true, if_false, Bool.false_eq_true]
        go_wp2_with fail
        exact DP_mk (rv_same (by omega) hG rfl)
      refine wpK_cons (isI (-9223372036854775808) 9223372036854775807) (fun V w k hk hG hD => ?_) (st_I _ _) ?_
      · obtain ⟨f21, -⟩ := hD
        simp only [actT, maskT, Nat.reduceAdd, if_true, if_false, Bool.false_eq_true]
        rw [show V 21 = Value.pointer (some ⟨d4, 1, none⟩) from f21]
        have gk := hG.le.good d4 _ _ (.inr (by simp)) nd4 gd4
        obtain ⟨y0, cy0, l0, h0⟩ := gk.cell (j := 1) (by omega)
        have gl := gk.lt
        go_wp2_with fail
        exact DP_mk (rv_same (by omega) hG ⟨_, rfl, l0, h0⟩)
      refine wpK_cons (isV ((Value.pointer (some ⟨X.g, 0, none⟩)))) (fun V w k hk hG hD => ?_) (st_V _) ?_
      · obtain ⟨-⟩ := hD
        simp only [actT, maskT, Nat.reduceAdd, if_true, if_false, Bool.false_eq_true]
        go_wp2_with fail
        exact DP_mk (rv_same (by omega) hG rfl)
      refine wpK_cons (isS X.g W.heap.size 4 4) (fun V w k hk hG hD => ?_) (st_S _ _) ?_
      · obtain ⟨-⟩ := hD
        simp only [actT, maskT, Nat.reduceAdd, if_true, if_false, Bool.false_eq_true]
        go_wp2_with fail
        exact DP_mk (rv_alloc (by omega) hG ⟨_, _, rfl, by omega, by omega, hG.le.size, by have := hG.cur.lt; omega, Good.lit' rfl (by simp) (by simp [sm_int])⟩)
      refine wpK_cons (isI (-9223372036854775808) 9223372036854775807) (fun V w k hk hG hD => ?_) (st_I _ _) ?_
      · obtain ⟨f23, f24, -⟩ := hD
        simp only [actT, maskT, Nat.reduceAdd, if_true, if_false, Bool.false_eq_true]
        rw [show V 23 = (Value.pointer (some ⟨X.g, 0, none⟩)) from f23]
        obtain ⟨b24, n24, e24, p24, q24, r24, s24, hS24⟩ := f24
        rw [e24]
        go_wp2_with (go_at_call 25; refine (among_ty _ _ _ hG.cur (by have := bud k hk; omega) hS24 (by omega) (by omega) (by omega) (by omega)).mono ?_; rintro e w' ⟨v, rfl, hg, hC, hd⟩)
        exact DP_mk (rv_call (by omega) hG hg hC hd)
      refine wpK_cons (isI (-9223372036854775808) 9223372036854775807) (fun V w k hk hG hD => ?_) (st_I _ _) ?_
      · obtain ⟨f22, f25, -⟩ := hD
        simp only [actT, maskT, Nat.reduceAdd, if_true, if_false, Bool.false_eq_true]
        obtain ⟨x22, e22, p22, q22⟩ := f22
        rw [e22]
        obtain ⟨x25, e25, p25, q25⟩ := f25
        rw [e25]
        go_wp2_with fail
        exact DP_mk (rv_same (by omega) hG ⟨_, rfl, by first | exact (wrap64_bd _).1 | omega, by first | exact (wrap64_bd _).2 | omega⟩)
      refine wpK_cons (isV (Value.pointer (some ⟨d4, 1, none⟩))) (fun V w k hk hG hD => ?_) (st_V _) ?_
      · obtain ⟨-⟩ := hD
        simp only [actT, maskT, Nat.reduceAdd, if_true, if_false, Bool.false_eq_true]
        go_wp2_with fail
        exact DP_mk (rv_same (by omega) hG rfl)
      refine wpK_cons (isT) (fun V w k hk hG hD => ?_) (st_T) ?_
      · obtain ⟨f27, f26, -⟩ := hD
        simp only [actT, maskT, Nat.reduceAdd, if_true, if_false, Bool.false_eq_true]
        rw [show V 27 = Value.pointer (some ⟨d4, 1, none⟩) from f27]
        obtain ⟨x26, e26, p26, q26⟩ := f26
        rw [e26]
        have gk := hG.le.good d4 _ _ (.inr (by simp)) nd4 gd4
        obtain ⟨y0, cy0, -, -⟩ := gk.cell (j := 1) (by omega)
        have fy0 := gk.frozen 1
        have gl := gk.lt
        go_wp2_with fail
        exact DP_mk (v := undef) (rv_set (R := isT) (by omega) hG (by simp) nd4 ad4 (sm_int.2 ⟨by omega, by omega⟩) trivial)
      refine wpK_nil (fun V W hG hD => ?_)
      obtain ⟨f21, f22, f23, f24, f25, f26, f27, f_7, -⟩ := hD
      simp only [actT, maskT, Nat.reduceAdd, if_true, if_false, Bool.false_eq_true]
      clear bud
      have hGr := lx_grown hGr hG.le (fun b hb => by simp at hb; omega) (by omega)
      have hC : Cur W X (B + 2 + 128 * (7 - j) + 16 + 16) := hG.cur.le (show B + 2 + 128 * (7 - j) + 16 + 2 * ((8 : Nat) : Int) ≤ B + 2 + 128 * (7 - j) + 16 + 16 by omega)
      have hO := own_lx hO hG.le (fun b e => ⟨by simp; exact hrb b e, own_ne hO hgw b e⟩)
      have gd4 := hG.le.good d4 _ _ (.inr (by simp)) nd4 gd4
      have gd4l := gd4.lt
      have hwr := hGr.size
      clear hG f21 f22 f23 f24 f25 f26 f27 f_7
      go_upto_region 8 with fail
      have bud : ∀ k : Nat, k < 8 → B + 2 + 128 * (7 - j) + 16 + 16 + 2 * (k : Int) ≤ 562949953421312 := fun k hk => by omega
      refine wp_region_inv (Le := Lx X.g [d4] W.heap.size) (G := GG X [d4] W (B + 2 + 128 * (7 - j) + 16 + 16) (2)) 96 [([], [true, true, true, true, true, true, true, true, true, true, true, true, true, true, true, true, true, true, true, true, true, true, true, true, true, true, true, true, true, false, false, false, false, false, false, true, true, true, true, true, true, true, true, true, true, true, true, true, true, true, true, true, true, true, true, true, true, true, true, true, true, true, true, true, true, true, true, true, true, true, true, true, true, true, true, true, true, true, true, true, true, true, true, true, true, true, true, true, true, true, true, true, true, true, true, true]), ([0], [true, true, true, true, true, true, true, true, true, true, true, true, true, true, true, true, true, true, true, true, true, true, true, true, true, true, true, true, false, true, false, false, false, false, false, true, true, true, true, true, true, true, true, true, true, true, true, true, true, true, true, true, true, true, true, true, true, true, true, true, true, true, true, true, true, true, true, true, true, true, true, true, true, true, true, true, true, true, true, true, true, true, true, true, true, true, true, true, true, true, true, true, true, true, true, true]), ([], [true, true, true, true, true, true, true, true, true, true, true, true, true, true, true, true, true, true, true, true, true, true, true, true, true, true, true, true, false, false, true, false, false, false, false, true, true, true, true, true, true, true, true, true, true, true, true, true, true, true, true, true, true, true, true, true, true, true, true, true, true, true, true, true, true, true, true, true, true, true, true, true, true, true, true, true, true, true, true, true, true, true, true, true, true, true, true, true, true, true, true, true, true, true, true, true]), ([], [true, true, true, true, true, true, true, true, true, true, true, true, true, true, true, true, true, true, true, true, true, true, true, true, true, true, true, true, false, false, false, true, false, false, false, true, true, true, true, true, true, true, true, true, true, true, true, true, true, true, true, true, true, true, true, true, true, true, true, true, true, true, true, true, true, true, true, true, true, true, true, true, true, true, true, true, true, true, true, true, true, true, true, true, true, true, true, true, true, true, true, true, true, true, true, true]), ([2, 3], [true, true, true, true, true, true, true, true, true, true, true, true, true, true, true, true, true, true, true, true, true, true, true, true, true, true, true, true, false, false, false, false, true, false, false, true, true, true, true, true, true, true, true, true, true, true, true, true, true, true, true, true, true, true, true, true, true, true, true, true, true, true, true, true, true, true, true, true, true, true, true, true, true, true, true, true, true, true, true, true, true, true, true, true, true, true, true, true, true, true, true, true, true, true, true, true]), ([1, 4], [true, true, true, true, true, true, true, true, true, true, true, true, true, true, true, true, true, true, true, true, true, true, true, true, true, true, true, true, false, false, false, false, false, true, false, true, true, true, true, true, true, true, true, true, true, true, true, true, true, true, true, true, true, true, true, true, true, true, true, true, true, true, true, true, true, true, true, true, true, true, true, true, true, true, true, true, true, true, true, true, true, true, true, true, true, true, true, true, true, true, true, true, true, true, true, true]), ([], [true, true, true, true, true, true, true, true, true, true, true, true, true, true, true, true, true, true, true, true, true, true, true, true, true, true, true, true, false, false, false, false, false, false, true, true, true, true, true, true, true, true, true, true, true, true, true, true, true, true, true, true, true, true, true, true, true, true, true, true, true, true, true, true, true, true, true, true, true, true, true, true, true, true, true, true, true, true, true, true, true, true, true, true, true, true, true, true, true, true, true, true, true, true, true, true]), ([6, 5], [true, true, true, true, true, true, true, true, true, true, true, true, true, true, true, true, true, true, true, true, true, true, true, true, true, true, true, true, false, false, false, false, false, false, false, true, true, true, true, true, true, true, true, true, true, true, true, true, true, true, true, true, true, true, true, true, true, true, true, true, true, true, true, true, true, true, true, true, true, true, true, true, true, true, true, true, true, true, true, true, true, true, true, true, true, true, true, true, true, true, true, true, true, true, true, true])] [true, true, true, true, true, true, true, true, true, true, true, true, true, true, true, true, true, true, true, true, true, true, true, true, true, true, true, true, false, false, false, false, false, false, false, true, true, true, true, true, true, true, true, true, true, true, true, true, true, true, true, true, true, true, true, true, true, true, true, true, true, true, true, true, true, true, true, true, true, true, true, true, true, true, true, true, true, true, true, true, true, true, true, true, true, true, true, true, true, true, true, true, true, true, true, true] (by kernel_rfl) (by rfl) (by kernel_rfl) ⟨⟨rfl, rfl, rfl, Nat.le_refl _, fun _ _ _ _ _ => rfl, fun _ _ _ _ _ h => h⟩, hC.drew.le (by omega)⟩ ?_
      refine wpK_cons (isV (Value.pointer (some ⟨d4, 2, none⟩))) (fun V w k hk hG hD => ?_) (st_V _) ?_
      · obtain ⟨-⟩ := hD
        simp only [actT, maskT, Nat.reduceAdd, if_true, if_false, Bool.false_eq_true]
        go_wp2_with fail
        exact DP_mk (rv_same (by omega) hG rfl)
      refine wpK_cons (isI (-9223372036854775808) 9223372036854775807) (fun V w k hk hG hD => ?_) (st_I _ _) ?_
      · obtain ⟨f28, -⟩ := hD
        simp only [actT, maskT, Nat.reduceAdd, if_true, if_false, Bool.false_eq_true]
        rw [show V 28 = Value.pointer (some ⟨d4, 2, none⟩) from f28]
        have gk := hG.le.good d4 _ _ (.inr (by simp)) nd4 gd4
        obtain ⟨y0, cy0, l0, h0⟩ := gk.cell (j := 2) (by omega)
        have gl := gk.lt
        go_wp2_with fail
        exact DP_mk (rv_same (by omega) hG ⟨_, rfl, l0, h0⟩)
      refine wpK_cons (isV ((Value.pointer (some ⟨X.g, 0, none⟩)))) (fun V w k hk hG hD => ?_) (st_V _) ?_
      · obtain ⟨-⟩ := hD
        simp only [actT, maskT, Nat.reduceAdd, if_true, if_false, Bool.false_eq_true]
        go_wp2_with fail
        exact DP_mk (rv_same (by omega) hG rfl)
      refine wpK_cons (isS X.g W.heap.size 4 4) (fun V w k hk hG hD => ?_) (st_S _ _) ?_
      · obtain ⟨-⟩ := hD
        simp only [actT, maskT, Nat.reduceAdd, if_true, if_false, Bool.false_eq_true]
        go_wp2_with fail
        exact DP_mk (rv_alloc (by omega) hG ⟨_, _, rfl, by omega, by omega, hG.le.size, by have := hG.cur.lt; omega, Good.lit' rfl (by simp) (by simp [sm_int])⟩)
      refine wpK_cons (isI (-9223372036854775808) 9223372036854775807) (fun V w k hk hG hD => ?_) (st_I _ _) ?_
      · obtain ⟨f30, f31, -⟩ := hD
        simp only [actT, maskT, Nat.reduceAdd, if_true, if_false, Bool.false_eq_true]
        rw [show V 30 = (Value.pointer (some ⟨X.g, 0, none⟩)) from f30]
        obtain ⟨b31, n31, e31, p31, q31, r31, s31, hS31⟩ := f31
        rw [e31]
        go_wp2_with (go_at_call 25; refine (among_ty _ _ _ hG.cur (by have := bud k hk; omega) hS31 (by omega) (by omega) (by omega) (by omega)).mono ?_; rintro e w' ⟨v, rfl, hg, hC, hd⟩)
        exact DP_mk (rv_call (by omega) hG hg hC hd)
      refine wpK_cons (isI (-9223372036854775808) 9223372036854775807) (fun V w k hk hG hD => ?_) (st_I _ _) ?_
      · obtain ⟨f29, f32, -⟩ := hD
        simp only [actT, maskT, Nat.reduceAdd, if_true, if_false, Bool.false_eq_true]
        obtain ⟨x29, e29, p29, q29⟩ := f29
        rw [e29]
        obtain ⟨x32, e32, p32, q32⟩ := f32
        rw [e32]
        go_wp2_with fail
        exact DP_mk (rv_same (by omega) hG ⟨_, rfl, by first | exact (wrap64_bd _).1 | omega, by first | exact (wrap64_bd _).2 | omega⟩)
      refine wpK_cons (isV (Value.pointer (some ⟨d4, 2, none⟩))) (fun V w k hk hG hD => ?_) (st_V _) ?_
      · obtain ⟨-⟩ := hD
        simp only [actT, maskT, Nat.reduceAdd, if_true, if_false, Bool.false_eq_true]
        go_wp2_with fail
        exact DP_mk (rv_same (by omega) hG rfl)
      refine wpK_cons (isT) (fun V w k hk hG hD => ?_) (st_T) ?_
      · obtain ⟨f34, f33, -⟩ := hD
        simp only [actT, maskT, Nat.reduceAdd, if_true, if_false, Bool.false_eq_true]
        rw [show V 34 = Value.pointer (some ⟨d4, 2, none⟩) from f34]
        obtain ⟨x33, e33, p33, q33⟩ := f33
        rw [e33]
        have gk := hG.le.good d4 _ _ (.inr (by simp)) nd4 gd4
        obtain ⟨y0, cy0, -, -⟩ := gk.cell (j := 2) (by omega)
        have fy0 := gk.frozen 2
        have gl := gk.lt
        go_wp2_with fail
        exact DP_mk (v := undef) (rv_set (R := isT) (by omega) hG (by simp) nd4 ad4 (sm_int.2 ⟨by omega, by omega⟩) trivial)
      refine wpK_nil (fun V W hG hD => ?_)
      obtain ⟨f28, f29, f30, f31, f32, f33, f34, f_7, -⟩ := hD
      simp only [actT, maskT, Nat.reduceAdd, if_true, if_false, Bool.false_eq_true]
      clear bud
      have hGr := lx_grown hGr hG.le (fun b hb => by simp at hb; omega) (by omega)
      have hC : Cur W X (B + 2 + 128 * (7 - j) + 16 + 16 + 16) := hG.cur.le (show B + 2 + 128 * (7 - j) + 16 + 16 + 2 * ((8 : Nat) : Int) ≤ B + 2 + 128 * (7 - j) + 16 + 16 + 16 by omega)
      have hO := own_lx hO hG.le (fun b e => ⟨by simp; exact hrb b e, own_ne hO hgw b e⟩)
      have gd4 := hG.le.good d4 _ _ (.inr (by simp)) nd4 gd4
      have gd4l := gd4.lt
      have hwr := hGr.size
      clear hG f28 f29 f30 f31 f32 f33 f34 f_7
      go_upto_region 9 with fail
      go_upto_region 10 with (go_at_call 25; refine (among_ty X _ _ (hC.alloc _) (by omega) (Good.lit' rfl (by simp) (by simp [sm_int])) (by have := hC.lt; omega) (by omega) (by omega) (by omega)).mono ?_; rintro e w' ⟨v, rfl, hg, hC, x, rfl, x0, x1⟩; have hGr := (gb_alloc hGr _).trans hg; have hO := own_grown (own_alloc hO _) hg hgw; have gd4 := good_gr (gd4.alloc _) nd4 hg; obtain ⟨y3, c3, l3, h3⟩ := gd4.cell (j := 3) (by omega); have f3 := gd4.frozen 3; have gd4l := gd4.lt)
      have hGr := gb_set (b := d4) (o := 3) (u := .int .i64 x) hGr (by omega)
      have hC : Cur _ X (B + 2 + 128 * (7 - j) + 16 + 16 + 16 + 2) := hC.set (b := d4) (o := 3) (u := .int .i64 x) (by omega) nd4 ⟨x, rfl, x0, x1⟩
      have hO := own_far (b := d4) (o := 3) (u := .int .i64 x) hO hrb
      have gd4 := gd4.set (b' := d4) (o := 3) (u := .int .i64 x) ⟨x, rfl, x0, x1⟩
      refine wp_genC (fun W => w.grownBy W (some X.g) ∧ Cur W X (B + 2 + 128 * (7 - j) + 16 + 16 + 16 + 2) ∧ W.ownsRow w.heap.size 26 6 _ zs.length (sitF zs) ∧ Good W d4 26 6) ⟨hGr, hC, hO, gd4⟩ ?_
      clear hGr hC hO gd4 gd4l hg c3 f3
      intro W ⟨hGr, hC, hO, gd4⟩
      have gd4l := gd4.lt
      have hwr := hGr.size
      go_upto_region 11 with (go_at_call 25; refine (among_ty X _ _ (hC.alloc _) (by omega) (Good.lit' rfl (by simp) (by simp [sm_int])) (by have := hC.lt; omega) (by omega) (by omega) (by omega)).mono ?_; rintro e w' ⟨v, rfl, hg, hC, x, rfl, x0, x1⟩; have hGr := (gb_alloc hGr _).trans hg; have hO := own_grown (own_alloc hO _) hg hgw; have gd4 := good_gr (gd4.alloc _) nd4 hg; obtain ⟨y4, c4, l4, h4⟩ := gd4.cell (j := 4) (by omega); have f4 := gd4.frozen 4; have gd4l := gd4.lt)
      have hGr := gb_set (b := d4) (o := 4) (u := .int .i64 x) hGr (by omega)
      have hC : Cur _ X (B + 2 + 128 * (7 - j) + 16 + 16 + 16 + 2 + 2) := hC.set (b := d4) (o := 4) (u := .int .i64 x) (by omega) nd4 ⟨x, rfl, x0, x1⟩
      have hO := own_far (b := d4) (o := 4) (u := .int .i64 x) hO hrb
      have gd4 := gd4.set (b' := d4) (o := 4) (u := .int .i64 x) ⟨x, rfl, x0, x1⟩
      refine wp_genC (fun W => w.grownBy W (some X.g) ∧ Cur W X (B + 2 + 128 * (7 - j) + 16 + 16 + 16 + 2 + 2) ∧ W.ownsRow w.heap.size 26 6 _ zs.length (sitF zs) ∧ Good W d4 26 6) ⟨hGr, hC, hO, gd4⟩ ?_
      clear hGr hC hO gd4 gd4l hg c4 f4
      intro W ⟨hGr, hC, hO, gd4⟩
      have gd4l := gd4.lt
      have hwr := hGr.size
      have bud : ∀ k : Nat, k < 8 → B + 2 + 128 * (7 - j) + 16 + 16 + 16 + 2 + 2 + 2 * (k : Int) ≤ 562949953421312 := fun k hk => by omega
      refine wp_region_inv (Le := Lx X.g [d4] W.heap.size) (G := GG X [d4] W (B + 2 + 128 * (7 - j) + 16 + 16 + 16 + 2 + 2) (2)) 96 [([], [true, true, true, true, true, true, true, true, true, true, true, true, true, true, true, true, true, true, true, true, true, true, true, true, true, true, true, true, true, true, true, true, true, true, true, true, true, true, true, true, true, true, true, true, false, false, false, false, false, false, true, true, true, true, true, true, true, true, true, true, true, true, true, true, true, true, true, true, true, true, true, true, true, true, true, true, true, true, true, true, true, true, true, true, true, true, true, true, true, true, true, true, true, true, true, true]), ([0], [true, true, true, true, true, true, true, true, true, true, true, true, true, true, true, true, true, true, true, true, true, true, true, true, true, true, true, true, true, true, true, true, true, true, true, true, true, true, true, true, true, true, true, false, true, false, false, false, false, false, true, true, true, true, true, true, true, true, true, true, true, true, true, true, true, true, true, true, true, true, true, true, true, true, true, true, true, true, true, true, true, true, true, true, true, true, true, true, true, true, true, true, true, true, true, true]), ([], [true, true, true, true, true, true, true, true, true, true, true, true, true, true, true, true, true, true, true, true, true, true, true, true, true, true, true, true, true, true, true, true, true, true, true, true, true, true, true, true, true, true, true, false, false, true, false, false, false, false, true, true, true, true, true, true, true, true, true, true, true, true, true, true, true, true, true, true, true, true, true, true, true, true, true, true, true, true, true, true, true, true, true, true, true, true, true, true, true, true, true, true, true, true, true, true]), ([], [true, true, true, true, true, true, true, true, true, true, true, true, true, true, true, true, true, true, true, true, true, true, true, true, true, true, true, true, true, true, true, true, true, true, true, true, true, true, true, true, true, true, true, false, false, false, true, false, false, false, true, true, true, true, true, true, true, true, true, true, true, true, true, true, true, true, true, true, true, true, true, true, true, true, true, true, true, true, true, true, true, true, true, true, true, true, true, true, true, true, true, true, true, true, true, true]), ([2, 3], [true, true, true, true, true, true, true, true, true, true, true, true, true, true, true, true, true, true, true, true, true, true, true, true, true, true, true, true, true, true, true, true, true, true, true, true, true, true, true, true, true, true, true, false, false, false, false, true, false, false, true, true, true, true, true, true, true, true, true, true, true, true, true, true, true, true, true, true, true, true, true, true, true, true, true, true, true, true, true, true, true, true, true, true, true, true, true, true, true, true, true, true, true, true, true, true]), ([1, 4], [true, true, true, true, true, true, true, true, true, true, true, true, true, true, true, true, true, true, true, true, true, true, true, true, true, true, true, true, true, true, true, true, true, true, true, true, true, true, true, true, true, true, true, false, false, false, false, false, true, false, true, true, true, true, true, true, true, true, true, true, true, true, true, true, true, true, true, true, true, true, true, true, true, true, true, true, true, true, true, true, true, true, true, true, true, true, true, true, true, true, true, true, true, true, true, true]), ([], [true, true, true, true, true, true, true, true, true, true, true, true, true, true, true, true, true, true, true, true, true, true, true, true, true, true, true, true, true, true, true, true, true, true, true, true, true, true, true, true, true, true, true, false, false, false, false, false, false, true, true, true, true, true, true, true, true, true, true, true, true, true, true, true, true, true, true, true, true, true, true, true, true, true, true, true, true, true, true, true, true, true, true, true, true, true, true, true, true, true, true, true, true, true, true, true]), ([6, 5], [true, true, true, true, true, true, true, true, true, true, true, true, true, true, true, true, true, true, true, true, true, true, true, true, true, true, true, true, true, true, true, true, true, true, true, true, true, true, true, true, true, true, true, false, false, false, false, false, false, false, true, true, true, true, true, true, true, true, true, true, true, true, true, true, true, true, true, true, true, true, true, true, true, true, true, true, true, true, true, true, true, true, true, true, true, true, true, true, true, true, true, true, true, true, true, true])] [true, true, true, true, true, true, true, true, true, true, true, true, true, true, true, true, true, true, true, true, true, true, true, true, true, true, true, true, true, true, true, true, true, true, true, true, true, true, true, true, true, true, true, false, false, false, false, false, false, false, true, true, true, true, true, true, true, true, true, true, true, true, true, true, true, true, true, true, true, true, true, true, true, true, true, true, true, true, true, true, true, true, true, true, true, true, true, true, true, true, true, true, true, true, true, true] (by kernel_rfl) (by rfl) (by kernel_rfl) ⟨⟨rfl, rfl, rfl, Nat.le_refl _, fun _ _ _ _ _ => rfl, fun _ _ _ _ _ h => h⟩, hC.drew.le (by omega)⟩ ?_
      refine wpK_cons (isV (Value.pointer (some ⟨d4, 5, none⟩))) (fun V w k hk hG hD => ?_) (st_V _) ?_
      · obtain ⟨-⟩ := hD
        simp only [actT, maskT, Nat.reduceAdd, if_true, if_false, Bool.false_eq_true]
        go_wp2_with fail
        exact DP_mk (rv_same (by omega) hG rfl)
      refine wpK_cons (isI (-9223372036854775808) 9223372036854775807) (fun V w k hk hG hD => ?_) (st_I _ _) ?_
      · obtain ⟨f43, -⟩ := hD
        simp only [actT, maskT, Nat.reduceAdd, if_true, if_false, Bool.false_eq_true]
        rw [show V 43 = Value.pointer (some ⟨d4, 5, none⟩) from f43]
        have gk := hG.le.good d4 _ _ (.inr (by simp)) nd4 gd4
        obtain ⟨y0, cy0, l0, h0⟩ := gk.cell (j := 5) (by omega)
        have gl := gk.lt
        go_wp2_with fail
        exact DP_mk (rv_same (by omega) hG ⟨_, rfl, l0, h0⟩)
      refine wpK_cons (isV ((Value.pointer (some ⟨X.g, 0, none⟩)))) (fun V w k hk hG hD => ?_) (st_V _) ?_
      · obtain ⟨-⟩ := hD
        simp only [actT, maskT, Nat.reduceAdd, if_true, if_false, Bool.false_eq_true]
        go_wp2_with fail
        exact DP_mk (rv_same (by omega) hG rfl)
      refine wpK_cons (isS X.g W.heap.size 4 4) (fun V w k hk hG hD => ?_) (st_S _ _) ?_
      · obtain ⟨-⟩ := hD
        simp only [actT, maskT, Nat.reduceAdd, if_true, if_false, Bool.false_eq_true]
        go_wp2_with fail
        exact DP_mk (rv_alloc (by omega) hG ⟨_, _, rfl, by omega, by omega, hG.le.size, by have := hG.cur.lt; omega, Good.lit' rfl (by simp) (by simp [sm_int])⟩)
      refine wpK_cons (isI (-9223372036854775808) 9223372036854775807) (fun V w k hk hG hD => ?_) (st_I _ _) ?_
      · obtain ⟨f45, f46, -⟩ := hD
        simp only [actT, maskT, Nat.reduceAdd, if_true, if_false, Bool.false_eq_true]
        rw [show V 45 = (Value.pointer (some ⟨X.g, 0, none⟩)) from f45]
        obtain ⟨b46, n46, e46, p46, q46, r46, s46, hS46⟩ := f46
        rw [e46]
        go_wp2_with (go_at_call 25; refine (among_ty _ _ _ hG.cur (by have := bud k hk; omega) hS46 (by omega) (by omega) (by omega) (by omega)).mono ?_; rintro e w' ⟨v, rfl, hg, hC, hd⟩)
        exact DP_mk (rv_call (by omega) hG hg hC hd)
      refine wpK_cons (isI (-9223372036854775808) 9223372036854775807) (fun V w k hk hG hD => ?_) (st_I _ _) ?_
      · obtain ⟨f44, f47, -⟩ := hD
        simp only [actT, maskT, Nat.reduceAdd, if_true, if_false, Bool.false_eq_true]
        obtain ⟨x44, e44, p44, q44⟩ := f44
        rw [e44]
        obtain ⟨x47, e47, p47, q47⟩ := f47
        rw [e47]
        go_wp2_with fail
        exact DP_mk (rv_same (by omega) hG ⟨_, rfl, by first | exact (wrap64_bd _).1 | omega, by first | exact (wrap64_bd _).2 | omega⟩)
      refine wpK_cons (isV (Value.pointer (some ⟨d4, 5, none⟩))) (fun V w k hk hG hD => ?_) (st_V _) ?_
      · obtain ⟨-⟩ := hD
        simp only [actT, maskT, Nat.reduceAdd, if_true, if_false, Bool.false_eq_true]
        go_wp2_with fail
        exact DP_mk (rv_same (by omega) hG rfl)
      refine wpK_cons (isT) (fun V w k hk hG hD => ?_) (st_T) ?_
      · obtain ⟨f49, f48, -⟩ := hD
        simp only [actT, maskT, Nat.reduceAdd, if_true, if_false, Bool.false_eq_true]
        rw [show V 49 = Value.pointer (some ⟨d4, 5, none⟩) from f49]
        obtain ⟨x48, e48, p48, q48⟩ := f48
        rw [e48]
        have gk := hG.le.good d4 _ _ (.inr (by simp)) nd4 gd4
        obtain ⟨y0, cy0, -, -⟩ := gk.cell (j := 5) (by omega)
        have fy0 := gk.frozen 5
        have gl := gk.lt
        go_wp2_with fail
        exact DP_mk (v := undef) (rv_set (R := isT) (by omega) hG (by simp) nd4 ad4 (sm_int.2 ⟨by omega, by omega⟩) trivial)
      refine wpK_nil (fun V W hG hD => ?_)
      obtain ⟨f43, f44, f45, f46, f47, f48, f49, f_7, -⟩ := hD
      simp only [actT, maskT, Nat.reduceAdd, if_true, if_false, Bool.false_eq_true]
      clear bud
      have hGr := lx_grown hGr hG.le (fun b hb => by simp at hb; omega) (by omega)
      have hC : Cur W X (B + 2 + 128 * (7 - j) + 16 + 16 + 16 + 2 + 2 + 16) := hG.cur.le (show B + 2 + 128 * (7 - j) + 16 + 16 + 16 + 2 + 2 + 2 * ((8 : Nat) : Int) ≤ B + 2 + 128 * (7 - j) + 16 + 16 + 16 + 2 + 2 + 16 by omega)
      have hO := own_lx hO hG.le (fun b e => ⟨by simp; exact hrb b e, own_ne hO hgw b e⟩)
      have gd4 := hG.le.good d4 _ _ (.inr (by simp)) nd4 gd4
      have gd4l := gd4.lt
      have hwr := hGr.size
      clear hG f43 f44 f45 f46 f47 f48 f49 f_7
      obtain ⟨yD0, cD0, lD0, hD0⟩ := gd4.cell (j := 0) (by omega)
      obtain ⟨yD1, cD1, lD1, hD1⟩ := gd4.cell (j := 1) (by omega)
      obtain ⟨yD2, cD2, lD2, hD2⟩ := gd4.cell (j := 2) (by omega)
      obtain ⟨yD3, cD3, lD3, hD3⟩ := gd4.cell (j := 3) (by omega)
      obtain ⟨yD4, cD4, lD4, hD4⟩ := gd4.cell (j := 4) (by omega)
      obtain ⟨yD5, cD5, lD5, hD5⟩ := gd4.cell (j := 5) (by omega)
      have bD := gd4.lt
      have hx : sitI (yD0, yD1, yD2, yD3, yD4, yD5) := ⟨⟨lD0, hD0⟩, ⟨lD1, hD1⟩, ⟨lD2, hD2⟩, ⟨lD3, hD3⟩, ⟨lD4, hD4⟩, ⟨lD5, hD5⟩⟩
      go_wp2_with (first | (at_builtin; refine wpList_append_own_at _ rfl (.tmp 50) (.tmp 52) 24 rfl w.heap.size 26 i0 _ 6 48 Try.underlying24 hi0 hz0 hz1 hz2 rfl (by decide) _ _ _ rfl (own_alloc hO _) ⟨_, 0, none⟩ 1 1 [.int .i64 yD0, .int .i64 yD1, .int .i64 yD2, .int .i64 yD3, .int .i64 yD4, .int .i64 yD5] rfl rfl ?c1 ?c2 ?c3 ?c4 ?c5 ?_))
      case c1 => exact ((Bk.new' (t := 26) (cs := [.int .i64 yD0, .int .i64 yD1, .int .i64 yD2, .int .i64 yD3, .int .i64 yD4, .int .i64 yD5]) (g := W.heap.size) (by simp)).rd (k := 6) (n := 1) rfl).news
      case c2 => (intro u hu; simp at hu; rcases hu with rfl | rfl | rfl | rfl | rfl | rfl <;> rfl)
      case c3 => (unfold maxLen; omega)
      case c4 => omega
      case c5 => (simp; omega)
      intro v' w1 hown' hgrow _ hat
      have hC := cur_own (hC.alloc _) (own_alloc hO _) hgw (Nat.le_of_eq hX) hgrow
      have hGr := gb_own (gb_alloc hGr _) (own_alloc hO _) hgrow
      have gd4 := good_own (gd4.alloc _) hgrow (fun e => hrb _ e.symm rfl)
      have hO : w1.ownsRow w.heap.size 26 6 v' (zs ++ [(yD0, yD1, yD2, yD3, yD4, yD5)]).length (sitF (zs ++ [(yD0, yD1, yD2, yD3, yD4, yD5)])) := by rw [sitF_add, List.length_append]; exact hown'
      have hrb : ∀ b, v'.ownBlock = some b → b ≠ d4 := fun b e => by
        rcases hat with h | h
        · exact hrb b (h.symm.trans e)
        · rw [h] at e; cases e; have := gd4l; simp; omega
      have hz : ∀ z ∈ zs ++ [(yD0, yD1, yD2, yD3, yD4, yD5)], sitI z := by
        intro z hz'
        rcases List.mem_append.1 hz' with h | h
        · exact hz z h
        · rw [List.mem_singleton.1 h]; exact hx
      obtain ⟨rb, rc, rfl, _⟩ := own_some hO (by simp)
      go_wp2
      go_roundw
      case rel => exact ⟨j - 1, zs ++ [(yD0, yD1, yD2, yD3, yD4, yD5)], by go_num, by omega, by omega, by simp; omega, hGr, hC.le (by omega), gd4, hO, hrb, ⟨_, _, rfl⟩, hz⟩
      case measure => simp [intOf]; omega
    · have i1 : decide (0 < j) = false := decide_eq_false hj
      obtain ⟨Bq, hBq⟩ : ∃ Bq, B + 2 + 128 * (7 - j) = Bq := ⟨_, rfl⟩
      rw [hBq] at hC
      go_upto_region 14 with (first | (go_at_call 35; refine (pick_ty X _ _ 29 _ hC (by omega) (by omega) (by omega) (by omega)).mono ?_; rintro e w' ⟨v, rfl, hg, hC, x, rfl, x0, x1⟩; have hGr := hGr.trans hg; have hO := own_grown hO hg hgw; have gd4 := good_gr gd4 nd4 hg; have gd4l := gd4.lt; have hwr := hGr.size))
      by_cases e0 : x = 0
      · subst e0
        obtain ⟨y0, c0, l0, h0⟩ := gd4.cell (j := 0) (by omega)
        go_wp2_with (first | (go_at_call 26; refine (situation_ats X _ _ _ (by omega) hC (by omega) (by first | exact wrap64_bd _ | omega)).mono ?_; rintro e w' ⟨q0, q1, q2, q3, q4, q5, rfl, hg, hC, hx⟩; have hGr := hGr.trans hg; have hO := own_grown hO hg hgw; have gd4 := good_gr gd4 nd4 hg; have gd4l := gd4.lt; have hwr := hGr.size) | (at_builtin; refine wpList_append_own_at _ rfl (.tmp 58) (.tmp 64) 24 rfl w.heap.size 26 i0 _ 6 48 Try.underlying24 hi0 hz0 hz1 hz2 rfl (by decide) _ _ _ rfl (own_alloc hO _) ⟨_, 0, none⟩ 1 1 [.int .i64 q0, .int .i64 q1, .int .i64 q2, .int .i64 q3, .int .i64 q4, .int .i64 q5] rfl rfl ?c1 ?c2 ?c3 ?c4 ?c5 ?_))
        case c1 => exact ((Bk.new' (t := 26) (cs := [.int .i64 q0, .int .i64 q1, .int .i64 q2, .int .i64 q3, .int .i64 q4, .int .i64 q5]) (g := w'.heap.size) (by simp)).rd (k := 6) (n := 1) rfl).news
        case c2 => (intro u hu; simp at hu; rcases hu with rfl | rfl | rfl | rfl | rfl | rfl <;> rfl)
        case c3 => (unfold maxLen; omega)
        case c4 => omega
        case c5 => (simp; omega)
        intro v' w1 hown' hgrow _ hat
        have hC := cur_own (hC.alloc _) (own_alloc hO _) hgw (Nat.le_of_eq hX) hgrow
        have hGr := gb_own (gb_alloc hGr _) (own_alloc hO _) hgrow
        have gd4 := good_own (gd4.alloc _) hgrow (fun e => hrb _ e.symm rfl)
        have hO : w1.ownsRow w.heap.size 26 6 v' (zs ++ [(q0, q1, q2, q3, q4, q5)]).length (sitF (zs ++ [(q0, q1, q2, q3, q4, q5)])) := by rw [sitF_add, List.length_append]; exact hown'
        have hrb : ∀ b, v'.ownBlock = some b → b ≠ d4 := fun b e => by
          rcases hat with h | h
          · exact hrb b (h.symm.trans e)
          · rw [h] at e; cases e; have := gd4l; simp; omega
        have hz : ∀ z ∈ zs ++ [(q0, q1, q2, q3, q4, q5)], sitI z := by
          intro z hz'
          rcases List.mem_append.1 hz' with h | h
          · exact hz z h
          · rw [List.mem_singleton.1 h]; exact hx
        obtain ⟨rb, rc, rfl, _⟩ := own_some hO (by simp)
        go_wp2
        go_returns
        exact ⟨_, _, zs ++ [(q0, q1, q2, q3, q4, q5)], rfl, hGr, hC.le (by omega), by rw [hX]; exact hO, ⟨_, _, rfl⟩, rfl, by simp; omega, hz⟩
      · have q0 : (x == (0 : Int)) = false := by simp; omega
        by_cases e1 : x = 1
        · subst e1
          obtain ⟨rb, rc, rfl⟩ := hsl
          by_cases h1 : 1 < zs.length
          · obtain ⟨N, hN⟩ : ∃ N, zs.length = N + 2 := ⟨zs.length - 2, by omega⟩
            have i2 : decide ((1 : Int) < (zs.length : Int)) = true := decide_eq_true (by omega)
            have i3 : decide (1 < zs.length) = true := decide_eq_true h1
            obtain ⟨⟨p0, p1, p2, p3, p4, p5⟩, hp⟩ : ∃ z, zs[N + 1]'(by omega) = z := ⟨_, rfl⟩
            have hx : sitI (p0, p1, p2, p3, p4, p5) := hz _ (by rw [← hp]; exact List.getElem_mem _)
            obtain ⟨b', off', eb, hbl, v0, v1, v2, v3, v4, v5, hv, k0, k1, k2, k3, k4, k5⟩ := sit_at (own_r hO) (Below.refl _ _) rfl (show N + 1 < zs.length by omega)
            cases eb
            rw [hp] at hv
            cases hv
            obtain ⟨b', off', eb, hbl', u0, u1, u2, u3, u4, u5, hu, m0, m1, m2, m3, m4, m5⟩ := sit_at (own_r hO) (Below.refl _ _) rfl (show 0 < zs.length by omega)
            cases eb
            clear hu hp
            simp only [Nat.zero_add, Nat.zero_mul] at k0 k1 k2 k3 k4 k5 m0 m1 m2 m3 m4 m5
            have fr : ∀ j, w'.frozen? ⟨rb, j, none⟩ = false := own_frozen hO
            have f0 := fr 0
            have f1 := fr 1
            have f2 := fr 2
            have f3 := fr 3
            have f4 := fr 4
            have f5 := fr 5
            have i4 : IntKind.i64.wrap ((zs.length : Int) - 1) = ((N + 1 : Nat) : Int) := by rw [IntKind.wrap_i64]; omega
            have i5 : wrap64 ((zs.length : Int) - 1) = ((N + 1 : Nat) : Int) := by simp only [wrap64]; omega
            have i6 : N + 1 < zs.length := by omega
            have i7 : 0 < zs.length := by omega
            have HN := Lib.hid hN
            clear hN fr
            go_upto_region 23 with fail
            have hN := HN.out
            obtain ⟨_, hbs⟩ := own_blk hO
            obtain ⟨hx0, hx1, hx2, hx3, hx4, hx5⟩ := id hx
            dsimp only at hx0 hx1 hx2 hx3 hx4 hx5
            refine wp_genC (fun W => w.grownBy W (some X.g) ∧ Cur W X _ ∧ W.ownsRow w.heap.size 26 6 (.slice (some ⟨rb, 0, none⟩) zs.length rc) zs.length (sitF (zs.set 0 (p0, p1, p2, p3, p4, p5)))) ⟨(gb_set (gb_set (gb_set (gb_set (gb_set (gb_set hGr (by omega)) (by omega)) (by omega)) (by omega)) (by omega)) (by omega)), (Cur.set (Cur.set (Cur.set (Cur.set (Cur.set (Cur.set hC (by omega) (by omega) ⟨p0, rfl, hx0.1, hx0.2⟩) (by omega) (by omega) ⟨p1, rfl, hx1.1, hx1.2⟩) (by omega) (by omega) ⟨p2, rfl, hx2.1, hx2.2⟩) (by omega) (by omega) ⟨p3, rfl, hx3.1, hx3.2⟩) (by omega) (by omega) ⟨p4, rfl, hx4.1, hx4.2⟩) (by omega) (by omega) ⟨p5, rfl, hx5.1, hx5.2⟩), own_set6 p0 p1 p2 p3 p4 p5 hO rfl i7⟩ ?_
            clear hGr hC hO k0 k1 k2 k3 k4 k5 m0 m1 m2 m3 m4 m5 f0 f1 f2 f3 f4 f5
            intro W ⟨hGr, hC, hO⟩
            go_wp2
            go_returns
            exact ⟨_, _, zs.set 0 (p0, p1, p2, p3, p4, p5), rfl, hGr, hC.le (by omega), by rw [hX]; exact hO, ⟨_, _, rfl⟩, by simp, by omega, fun z hz' => by
            rcases List.mem_or_eq_of_mem_set hz' with h | rfl
            · exact hz z h
            · exact hx⟩
          · have i2 : decide ((1 : Int) < (zs.length : Int)) = false := decide_eq_false (by omega)
            have i3 : decide (1 < zs.length) = false := decide_eq_false h1
            go_wp2
            go_returns
            exact ⟨_, _, zs, rfl, hGr, hC.le (by omega), by rw [hX]; exact hO, ⟨_, _, rfl⟩, rfl, by omega, hz⟩
        · have q1 : (x == (1 : Int)) = false := by simp; omega
          by_cases e2 : x = 2
          · subst e2
            go_wp2
            go_loopw [3] (fun v wr => ∃ (zs : List SituationT), slN v = zs.length ∧ zs.length ≤ 49 ∧ w.grownBy wr (some X.g) ∧ Cur wr X (B + 1024 + 2 * zs.length) ∧ Good wr d4 26 6 ∧ wr.ownsRow w.heap.size 26 6 v zs.length (sitF zs) ∧ (∀ b, v.ownBlock = some b → b ≠ d4) ∧ (∃ b c, v = .slice (some ⟨b, 0, none⟩) zs.length c) ∧ ∀ z ∈ zs, sitI z) (fun v _ => 64 - slN v)
            case atStart => exact ⟨zs, by obtain ⟨b, c, rfl⟩ := hsl; rfl, by omega, hGr, hC.le (by omega), gd4, hO, hrb, hsl, hz⟩
            case round =>
              obtain ⟨zs, hsn, hl, hGr, hC, gd4, hO, hrb, ⟨rb, rc, rfl⟩, hz⟩ := hrel
              clear hsn
              have hwr := hGr.size
              have gd4l := gd4.lt
              go_upto_region 21 with (first | (go_at_call 35; refine (pick_ty X _ _ 1 _ hC (by omega) (by omega) (by omega) (by omega)).mono ?_; rintro e w' ⟨v, rfl, hg, hC, x, rfl, x0, x1⟩; have hGr := hGr.trans hg; have hO := own_grown hO hg hgw; have gd4 := good_gr gd4 nd4 hg; have gd4l := gd4.lt; have hwr := hGr.size))
              any_goals (go_returns; exact ⟨_, _, zs, rfl, hGr, hC.le (by omega), by rw [hX]; exact hO, ⟨_, _, rfl⟩, rfl, by omega, hz⟩)
              obtain ⟨y0, c0, l0, h0⟩ := gd4.cell (j := 0) (by omega)
              have f0 := gd4.frozen 0
              go_upto_region 22 with fail
              refine wp_genC (fun W => w.grownBy W (some X.g) ∧ Cur W X (B + 1024 + 2 * zs.length + 2) ∧ Good W d4 26 6 ∧ W.ownsRow w.heap.size 26 6 (.slice (some ⟨rb, 0, none⟩) zs.length rc) zs.length (sitF zs)) ⟨gb_set hGr (by omega), hC.set (by omega) nd4 ⟨_, rfl, by first | exact (wrap64_bd _).1 | omega, by first | exact (wrap64_bd _).2 | omega⟩, gd4.set ⟨_, rfl, by first | exact (wrap64_bd _).1 | omega, by first | exact (wrap64_bd _).2 | omega⟩, own_far hO hrb⟩ ?_
              clear hGr hC hO gd4 gd4l hg c0 f0
              intro W ⟨hGr, hC, gd4, hO⟩
              have gd4l := gd4.lt
              have hwr := hGr.size
              obtain ⟨yD0, cD0, lD0, hD0⟩ := gd4.cell (j := 0) (by omega)
              obtain ⟨yD1, cD1, lD1, hD1⟩ := gd4.cell (j := 1) (by omega)
              obtain ⟨yD2, cD2, lD2, hD2⟩ := gd4.cell (j := 2) (by omega)
              obtain ⟨yD3, cD3, lD3, hD3⟩ := gd4.cell (j := 3) (by omega)
              obtain ⟨yD4, cD4, lD4, hD4⟩ := gd4.cell (j := 4) (by omega)
              obtain ⟨yD5, cD5, lD5, hD5⟩ := gd4.cell (j := 5) (by omega)
              have bD := gd4.lt
              have hx : sitI (yD0, yD1, yD2, yD3, yD4, yD5) := ⟨⟨lD0, hD0⟩, ⟨lD1, hD1⟩, ⟨lD2, hD2⟩, ⟨lD3, hD3⟩, ⟨lD4, hD4⟩, ⟨lD5, hD5⟩⟩
              go_wp2_with (first | (at_builtin; refine wpList_append_own_at _ rfl (.tmp 91) (.tmp 93) 24 rfl w.heap.size 26 i0 _ 6 48 Try.underlying24 hi0 hz0 hz1 hz2 rfl (by decide) _ _ _ rfl (own_alloc hO _) ⟨_, 0, none⟩ 1 1 [.int .i64 yD0, .int .i64 yD1, .int .i64 yD2, .int .i64 yD3, .int .i64 yD4, .int .i64 yD5] rfl rfl ?c1 ?c2 ?c3 ?c4 ?c5 ?_))
              case c1 => exact ((Bk.new' (t := 26) (cs := [.int .i64 yD0, .int .i64 yD1, .int .i64 yD2, .int .i64 yD3, .int .i64 yD4, .int .i64 yD5]) (g := W.heap.size) (by simp)).rd (k := 6) (n := 1) rfl).news
              case c2 => (intro u hu; simp at hu; rcases hu with rfl | rfl | rfl | rfl | rfl | rfl <;> rfl)
              case c3 => (unfold maxLen; omega)
              case c4 => omega
              case c5 => (simp; omega)
              intro v' w1 hown' hgrow _ hat
              have hC := cur_own (hC.alloc _) (own_alloc hO _) hgw (Nat.le_of_eq hX) hgrow
              have hGr := gb_own (gb_alloc hGr _) (own_alloc hO _) hgrow
              have gd4 := good_own (gd4.alloc _) hgrow (fun e => hrb _ e.symm rfl)
              have hO : w1.ownsRow w.heap.size 26 6 v' (zs ++ [(yD0, yD1, yD2, yD3, yD4, yD5)]).length (sitF (zs ++ [(yD0, yD1, yD2, yD3, yD4, yD5)])) := by rw [sitF_add, List.length_append]; exact hown'
              have hrb : ∀ b, v'.ownBlock = some b → b ≠ d4 := fun b e => by
                rcases hat with h | h
                · exact hrb b (h.symm.trans e)
                · rw [h] at e; cases e; have := gd4l; simp; omega
              have hz : ∀ z ∈ zs ++ [(yD0, yD1, yD2, yD3, yD4, yD5)], sitI z := by
                intro z hz'
                rcases List.mem_append.1 hz' with h | h
                · exact hz z h
                · rw [List.mem_singleton.1 h]; exact hx
              obtain ⟨rb, rc, rfl, _⟩ := own_some hO (by simp)
              go_wp2
              go_roundw
              case rel => exact ⟨zs ++ [(yD0, yD1, yD2, yD3, yD4, yD5)], by simp [slN], by simp; omega, hGr, hC.le (by simp; omega), gd4, hO, hrb, ⟨_, _, rfl⟩, hz⟩
              case measure => simp [slN]; omega
          · have q2 : (x == (2 : Int)) = false := by simp; omega
            obtain ⟨rb, rc, rfl⟩ := hsl
            go_wp2
            go_returns
            exact ⟨_, _, zs, rfl, hGr, hC.le (by omega), by rw [hX]; exact hO, ⟨_, _, rfl⟩, rfl, by omega, hz⟩
end Go.Proofs.Ytjffhacoijmgiaa
