/-
  The assignment chapter's draws. Conditions: the text is no longer than 2^16.
-/
import Derived.Test.YtallgjobljkgnaaDT
import Derived.Test.YtallgjobljkgnaaPF
namespace Go.Proofs.Ytallgjobljkgnaa
open Go.RowKit
set_option maxRecDepth 100000
set_option maxHeartbeats 4000000

/-- a table that was drawn -/
def TabD (w : World) (v : Value) (T : List (List Int)) : Prop := (∃ A c, v = .slice A T.length c ∧ RdT w A T.length T) ∧ tabI T
/-- a row that was drawn -/
def RowD (w : World) (v : Value) (zs : List Int) : Prop := (∃ A c, v = .slice A zs.length c ∧ Rd w 1 A zs.length (ints zs) ∧ zs.length ≤ c) ∧ zs.length ≤ 6 ∧ ∀ z ∈ zs, I64 z
theorem TD.tabD {w : World} {base : Nat} {v : Value} {T : List (List Int)} {f c : Nat → Nat} (h : TD w base v T f c) (hT : tabI T) : TabD w v T := ⟨h.rd, hT⟩
theorem rowD_of {w : World} {base n : Nat} {t : TypeId} {v : Value} {zs : List Int} (h : w.ownsRow base t 1 v n (ints zs)) (hl : zs.length = n) (h6 : zs.length ≤ 6) (hz : ∀ z ∈ zs, I64 z) : RowD w v zs := by
  subst hl
  refine ⟨?_, h6, hz⟩
  rcases own_bk h with ⟨rfl, h0⟩ | ⟨g, cap, cs, rfl, hb, hB, h1, _⟩
  · rw [h0] at h ⊢
    exact ⟨none, 0, rfl, own_r h, Nat.le_refl _⟩
  · exact ⟨_, cap, rfl, own_r h, h1⟩
/-- a row of which only the length is told -/
def RowL (w : World) (v : Value) (zs : List Int) : Prop := (∃ A c, v = .slice A zs.length c ∧ Rd w 1 A zs.length (ints zs) ∧ zs.length ≤ c) ∧ zs.length ≤ 6
theorem RowD.rowL {w : World} {v : Value} {zs : List Int} (h : RowD w v zs) : RowL w v zs := ⟨h.1, h.2.1⟩
theorem rowL_of {w : World} {base n : Nat} {t : TypeId} {v : Value} {zs : List Int} (h : w.ownsRow base t 1 v n (ints zs)) (hl : zs.length = n) (h6 : zs.length ≤ 6) : RowL w v zs := by
  subst hl
  refine ⟨?_, h6⟩
  rcases own_bk h with ⟨rfl, h0⟩ | ⟨g, cap, cs, rfl, hb, hB, h1, _⟩
  · rw [h0] at h ⊢
    exact ⟨none, 0, rfl, own_r h, Nat.le_refl _⟩
  · exact ⟨_, cap, rfl, own_r h, h1⟩
theorem costTable_ats (X : DX) (B : Int) (w : World) (hX : X.base ≤ w.heap.size) (hC : Cur w X B) (hB : B ≤ 281474976710656) :
    Calls Try.prog 52 #[.pointer (some ⟨X.g, 0, none⟩)] w fun e w' => ∃ v T f c, e = .returned v ∧ w.grownBy w' (some X.g) ∧ Cur w' X (B + 4096) ∧ TD w' w.heap.size v T f c ∧ tabI T := by
  refine (costTable_ty { X with base := w.heap.size } B w rfl (hC.rebase hX) hB).mono ?_
  rintro e w' ⟨v, T, f, c, rfl, hg, hC', hD, hT⟩
  exact ⟨v, T, f, c, rfl, hg, hC'.unbase hC.ne, hD, hT⟩
theorem tasksFor_ats (X : DX) (B : Int) {A : Option Addr} {n c : Nat} (w : World) (hX : X.base ≤ w.heap.size) (hC : Cur w X B) (hB : B ≤ 281474976710656) (hn : n ≤ 5) :
    Calls Try.prog 53 #[.pointer (some ⟨X.g, 0, none⟩), .slice A n c] w fun e w' => ∃ v zs, e = .returned v ∧ w.grownBy w' (some X.g) ∧ Cur w' X (B + 64) ∧ w'.ownsRow w.heap.size 3 1 v zs.length (ints zs) ∧ zs.length ≤ 6 ∧ ∀ z ∈ zs, I64 z := by
  refine (tasksFor_ty { X with base := w.heap.size } B w rfl (hC.rebase hX) hB hn).mono ?_
  rintro e w' ⟨v, m, zs, rfl, hg, hC', hO, rfl, h6, hz⟩
  exact ⟨v, zs, rfl, hg, hC'.unbase hC.ne, hO, h6, fun z h => by have := hz z h; exact ⟨by omega, by omega⟩⟩
theorem pricesFor_ats (X : DX) (B : Int) {base0 : Nat} {V : Value} {T : List (List Int)} {f cc : Nat → Nat} (w : World) (hX : X.base ≤ w.heap.size) (hC : Cur w X B) (hB : B ≤ 281474976710656) (hD : TD w base0 V T f cc) (hg0 : X.g < base0) (hT : tabI T) :
    Calls Try.prog 70 #[.pointer (some ⟨X.g, 0, none⟩), V] w fun e w' => ∃ v1 v2 cs ts, e = .returned (.tuple #[v1, v2]) ∧ w.grownBy w' (some X.g) ∧ Cur w' X (B + 64) ∧ w'.ownsRow w.heap.size 3 1 v1 cs.length (ints cs) ∧ w'.ownsRow w.heap.size 3 1 v2 ts.length (ints ts) ∧ (cs.length ≤ 6 ∧ ∀ z ∈ cs, I64 z) ∧ ts.length ≤ 6 ∧ ∀ z ∈ ts, I64 z := by
  refine (pricesFor_ty { X with base := w.heap.size } B w rfl (hC.rebase hX) hB hD hg0 hT).mono ?_
  rintro e w' ⟨v1, v2, cs, ts, rfl, hg, hC', h⟩
  exact ⟨v1, v2, cs, ts, rfl, hg, hC'.unbase hC.ne, h⟩
theorem DrawAssignmentCost_any (A : Option Addr) (n c : Nat) (cs : List Value) (w : World) (hc : Code w A n cs) :
    Calls Try.prog 28 #[.slice A n c] w fun e w' => ∃ v1 v2 T zs, e = .returned (.tuple #[v1, v2]) ∧ (TabD w' v1 T ∧ RowD w' v2 zs) ∧ Below w.heap.size w w' := by
  go_enter Try.func28, Try.ntmps28
  go_upto_region 2 with fail
  refine wp_genC (fun W => Below w.heap.size w W ∧ Cur W ⟨w.heap.size, A, n, c, cs, w.heap.size + 1⟩ 0) ⟨by (repeat' (first | (with_reducible exact Below.refl _ _) | (with_reducible assumption) | (with_reducible refine balloc ?_ _) | (with_reducible refine bdrew ?_) | (with_reducible refine bdrewN ?_ _) | (with_reducible refine bstep ?_ (by assumption)) | (with_reducible refine bset ?_ ?_ _) | (exact Below.size (by assumption)) | go_size)), Cur.made hc (Below.refl _ _) rfl⟩ ?_
  intro W ⟨bW, hC⟩
  have hs := bW.size
  have hlt := hC.lt
  go_upto_region 3 with (go_at_call 52; refine (costTable_ats ⟨w.heap.size, A, n, c, cs, w.heap.size + 1⟩ _ _ (by simp only at hlt ⊢; omega) hC (by omega)).mono ?_; rintro e w' ⟨v, T, f, cc, rfl, hg, hC, hD, hT⟩; obtain ⟨A1, c1, rfl, -⟩ := hD.rd; have bW := below_gr bW hg (Nat.le_refl _))
  have hlt2 := hC.lt
  have hT5 := hT.1
  go_wp2_with (go_at_call 53; refine (tasksFor_ats ⟨w.heap.size, A, n, c, cs, w.heap.size + 1⟩ _ _ (by simp only at hlt2 ⊢; omega) hC (by omega) hT5).mono ?_; rintro e w2 ⟨v2, zs, rfl, hg2, hC, hO, h6, hz⟩; dsimp only at hg2; have hD := hD.grown hg2 hlt; have bW := below_gr bW hg2 (Nat.le_refl _))
  go_returns
  exact ⟨_, _, T, zs, rfl, ⟨hD.tabD hT, rowD_of hO rfl h6 hz⟩, bW⟩
theorem DrawRotateSaving_any (A : Option Addr) (n c : Nat) (cs : List Value) (w : World) (hc : Code w A n cs) :
    Calls Try.prog 25 #[.slice A n c] w fun e w' => ∃ v1 v2 T zs, e = .returned (.tuple #[v1, v2]) ∧ (TabD w' v1 T ∧ RowD w' v2 zs) ∧ Below w.heap.size w w' := by
  go_enter Try.func25, Try.ntmps25
  go_wp2_with (go_at_call 28; refine (DrawAssignmentCost_any A n c cs _ hc).mono ?_; rintro e w' ⟨v1, v2, T, zs, rfl, h, hb⟩)
  go_returns
  exact ⟨_, _, T, zs, rfl, h, hb⟩
theorem DrawAreFair_any (A : Option Addr) (n c : Nat) (cs : List Value) (w : World) (hc : Code w A n cs) :
    Calls Try.prog 47 #[.slice A n c] w fun e w' => ∃ v1 v2 v3 T ds ts, e = .returned (.tuple #[v1, v2, v3]) ∧ (TabD w' v1 T ∧ RowD w' v2 ds ∧ RowD w' v3 ts) ∧ Below w.heap.size w w' := by
  go_enter Try.func47, Try.ntmps47
  go_upto_region 2 with fail
  refine wp_genC (fun W => Below w.heap.size w W ∧ Cur W ⟨w.heap.size, A, n, c, cs, w.heap.size + 1⟩ 0) ⟨by (repeat' (first | (with_reducible exact Below.refl _ _) | (with_reducible assumption) | (with_reducible refine balloc ?_ _) | (with_reducible refine bdrew ?_) | (with_reducible refine bdrewN ?_ _) | (with_reducible refine bstep ?_ (by assumption)) | (with_reducible refine bset ?_ ?_ _) | (exact Below.size (by assumption)) | go_size)), Cur.made hc (Below.refl _ _) rfl⟩ ?_
  intro W ⟨bW, hC⟩
  have hs := bW.size
  have hlt := hC.lt
  go_upto_region 3 with (go_at_call 52; refine (costTable_ats ⟨w.heap.size, A, n, c, cs, w.heap.size + 1⟩ _ _ (by simp only at hlt ⊢; omega) hC (by omega)).mono ?_; rintro e w' ⟨v, T, f, cc, rfl, hg, hC, hD, hT⟩; have bW := below_gr bW hg (Nat.le_refl _))
  have hlt2 := hC.lt
  go_wp2_with (go_at_call 70; refine (pricesFor_ats ⟨w.heap.size, A, n, c, cs, w.heap.size + 1⟩ _ _ (by simp only at hlt2 ⊢; omega) hC (by omega) hD hlt hT).mono ?_; rintro e w2 ⟨v2, v3, ds, ts, rfl, hg2, hC, hO, hO2, ⟨h6, hz⟩, h62, hz2⟩; dsimp only at hg2; have hD := hD.grown hg2 hlt; have bW := below_gr bW hg2 (Nat.le_refl _))
  go_returns
  exact ⟨_, _, _, T, ds, ts, rfl, ⟨hD.tabD hT, rowD_of hO rfl h6 hz, rowD_of hO2 rfl h62 hz2⟩, bW⟩
theorem DrawRaisePrices_any (A : Option Addr) (n c : Nat) (cs : List Value) (w : World) (hc : Code w A n cs) :
    Calls Try.prog 16 #[.slice A n c] w fun e w' => ∃ v1 v2 T zs, e = .returned (.tuple #[v1, v2]) ∧ (TabD w' v1 T ∧ RowD w' v2 zs) ∧ Below w.heap.size w w' := by
  go_enter Try.func16, Try.ntmps16
  go_wp2_with (go_at_call 47; refine (DrawAreFair_any A n c cs _ hc).mono ?_; rintro e w' ⟨v1, v2, v3, T, ds, ts, rfl, ⟨h1, h2, h3⟩, hb⟩)
  go_returns
  exact ⟨_, _, T, ts, rfl, ⟨h1, h3⟩, hb⟩
theorem DrawPriceValue_any (A : Option Addr) (n c : Nat) (cs : List Value) (w : World) (hc : Code w A n cs) :
    Calls Try.prog 32 #[.slice A n c] w fun e w' => ∃ v1 v2 v3 T ds ts, e = .returned (.tuple #[v1, v2, v3]) ∧ (TabD w' v1 T ∧ RowD w' v2 ds ∧ RowD w' v3 ts) ∧ Below w.heap.size w w' := by
  go_enter Try.func32, Try.ntmps32
  go_wp2_with (go_at_call 47; refine (DrawAreFair_any A n c cs _ hc).mono ?_; rintro e w' ⟨v1, v2, v3, T, ds, ts, rfl, h, hb⟩)
  go_returns
  exact ⟨_, _, _, T, ds, ts, rfl, h, hb⟩
theorem DrawSwapSaving_any (A : Option Addr) (n c : Nat) (cs : List Value) (w : World) (hc : Code w A n cs) :
    Calls Try.prog 21 #[.slice A n c] w fun e w' => ∃ v1 v2 T zs a b, e = .returned (.tuple #[v1, v2, .int .i64 a, .int .i64 b]) ∧ (TabD w' v1 T ∧ RowD w' v2 zs ∧ I64 a ∧ I64 b) ∧ Below w.heap.size w w' := by
  go_enter Try.func21, Try.ntmps21
  go_upto_region 2 with fail
  refine wp_genC (fun W => Below w.heap.size w W ∧ Cur W ⟨w.heap.size, A, n, c, cs, w.heap.size + 1⟩ 0) ⟨by (repeat' (first | (with_reducible exact Below.refl _ _) | (with_reducible assumption) | (with_reducible refine balloc ?_ _) | (with_reducible refine bdrew ?_) | (with_reducible refine bdrewN ?_ _) | (with_reducible refine bstep ?_ (by assumption)) | (with_reducible refine bset ?_ ?_ _) | (exact Below.size (by assumption)) | go_size)), Cur.made hc (Below.refl _ _) rfl⟩ ?_
  intro W ⟨bW, hC⟩
  have hs := bW.size
  have hlt := hC.lt
  go_upto_region 3 with (go_at_call 52; refine (costTable_ats ⟨w.heap.size, A, n, c, cs, w.heap.size + 1⟩ _ _ (by simp only at hlt ⊢; omega) hC (by omega)).mono ?_; rintro e w' ⟨v, T, f, cc, rfl, hg, hC, hD, hT⟩; obtain ⟨A1, c1, rfl, -⟩ := hD.rd; have bW := below_gr bW hg (Nat.le_refl _))
  have hlt2 := hC.lt
  have hT5 := hT.1
  go_wp2_with (first
    | (go_at_call 53; refine (tasksFor_ats ⟨w.heap.size, A, n, c, cs, w.heap.size + 1⟩ _ _ (by simp only at hlt2 ⊢; omega) hC (by omega) hT5).mono ?_; rintro e w2 ⟨v2, zs, rfl, hg2, hC, hO, h6, hz⟩; dsimp only at hg2; have hD := hD.grown hg2 hlt; have bW := below_gr bW hg2 (Nat.le_refl _))
    | (go_at_call 54; refine (pick_ty ⟨w.heap.size, A, n, c, cs, w.heap.size + 1⟩ _ _ 9 _ hC (by omega) (by omega) (by omega) (by omega)).mono ?_; rintro e w3 ⟨v, rfl, hg3, hC, x, rfl, x0, x1⟩; dsimp only at hg3; have hO := own_grown hO hg3 (by first | omega | (simp only at hlt2 ⊢; omega)); have hD := hD.grown hg3 hlt; have bW := below_gr bW hg3 (Nat.le_refl _)))
  go_returns
  exact ⟨_, _, T, zs, _, _, rfl, ⟨hD.tabD hT, rowD_of hO rfl h6 hz, by first | exact wrap64_bd _ | (constructor <;> omega), by first | exact wrap64_bd _ | (constructor <;> omega)⟩, bW⟩
theorem DrawProvesCheapest_any (A : Option Addr) (n c : Nat) (cs : List Value) (w : World) (hc : Code w A n cs) :
    Calls Try.prog 36 #[.slice A n c] w fun e w' => ∃ v1 v2 v3 v4 T zs ds ts, e = .returned (.tuple #[v1, v2, v3, v4]) ∧ (TabD w' v1 T ∧ RowL w' v2 zs ∧ RowD w' v3 ds ∧ RowD w' v4 ts) ∧ Below w.heap.size w w' := by
  go_enter Try.func36, Try.ntmps36
  go_upto_region 2 with fail
  refine wp_genC (fun W => Below w.heap.size w W ∧ Cur W ⟨w.heap.size, A, n, c, cs, w.heap.size + 1⟩ 0) ⟨by (repeat' (first | (with_reducible exact Below.refl _ _) | (with_reducible assumption) | (with_reducible refine balloc ?_ _) | (with_reducible refine bdrew ?_) | (with_reducible refine bdrewN ?_ _) | (with_reducible refine bstep ?_ (by assumption)) | (with_reducible refine bset ?_ ?_ _) | (exact Below.size (by assumption)) | go_size)), Cur.made hc (Below.refl _ _) rfl⟩ ?_
  intro W ⟨bW, hC⟩
  have hs := bW.size
  have hlt := hC.lt
  go_upto_region 3 with (go_at_call 52; refine (costTable_ats ⟨w.heap.size, A, n, c, cs, w.heap.size + 1⟩ _ _ (by simp only at hlt ⊢; omega) hC (by omega)).mono ?_; rintro e w' ⟨v, T, f, cc, rfl, hg, hC, hD, hT⟩; have bW := below_gr bW hg (Nat.le_refl _))
  have hlt2 := hC.lt
  go_upto_region 4 with (go_at_call 70; refine (pricesFor_ats ⟨w.heap.size, A, n, c, cs, w.heap.size + 1⟩ _ _ (by simp only at hlt2 ⊢; omega) hC (by omega) hD hlt hT).mono ?_; rintro e w2 ⟨v2, v3, ds, ts, rfl, hg2, hC, hO, hO2, ⟨h6, hz⟩, h62, hz2⟩; dsimp only at hg2; have hD := hD.grown hg2 hlt; have bW := below_gr bW hg2 (Nat.le_refl _))
  obtain ⟨A1, c1, rfl, hRT⟩ := hD.rd
  have hT5 := hT.1
  obtain ⟨q, hq⟩ : ∃ q, ctB T = q := ⟨_, rfl⟩
  obtain ⟨L, v0, hR⟩ : ∃ L v0, caR T = (L, v0) := ⟨_, _, rfl⟩
  have hL5 : L.length ≤ 5 := by have := caR_len T; rw [hR] at this; exact this
  have X1 := fun (W : World) h1 => sCheapest_is (A := A1) (n := T.length) (c := c1) hq hR W h1 (by omega)
  have HL5 := Lib.hid hL5
  clear hq hR hL5
  go_upto_region 5 with (go_at_call 7; refine (X1 _ hRT).mono ?_; rintro e w3 ⟨u, rfl, hO3, hbl⟩; have hD := hD.below hbl; have hO := own_below hO hbl; have hO2 := own_below hO2 hbl; have hC := hC.kept (Le.grown (gb_below hbl)) (hbl.block _ hC.lt); have bW := bstep bW hbl)
  clear X1 hRT
  rcases q with _ | _
  · go_wp2_with (first | (go_at_call 53; refine (tasksFor_ats ⟨w.heap.size, A, n, c, cs, w.heap.size + 1⟩ _ _ (by have h9 := hC.lt; simp only at h9 ⊢; omega) hC (by omega) hT5).mono ?_; rintro e w5 ⟨v5, zs, rfl, hg5, hC, hO5, h65, hz5⟩; dsimp only at hg5; have hD := hD.grown hg5 hlt; have hO := own_grown hO hg5 hlt2; have hO2 := own_grown hO2 hg5 hlt2; have bW := below_gr bW hg5 (Nat.le_refl _)))
    go_returns
    exact ⟨_, _, _, _, T, zs, ds, ts, rfl, ⟨hD.tabD hT, rowL_of hO5 rfl h65, rowD_of hO rfl h6 hz, rowD_of hO2 rfl h62 hz2⟩, bW⟩
  · have hlt3 : w.heap.size < w2.heap.size := by have := (hg.trans hg2).size; first | omega | (simp only at hlt; omega)
    go_upto_if 35 with (first | (go_at_call 71; refine (one_ty ⟨w.heap.size, A, n, c, cs, w.heap.size + 1⟩ _ _ _ hC (by omega) (by omega)).mono ?_; rintro e w4 ⟨v, rfl, hg4, hC, x, rfl⟩; dsimp only at hg4; have hD := hD.grown hg4 hlt; have hO := own_grown hO hg4 hlt2; have hO2 := own_grown hO2 hg4 hlt2; have hO3 := own_grown hO3 hg4 hlt3; have bW := below_gr bW hg4 (Nat.le_refl _)))
    rcases x with _ | _
    · go_wp2
      go_returns
      exact ⟨_, _, _, _, T, L, ds, ts, rfl, ⟨hD.tabD hT, rowL_of hO3 rfl (by have := HL5.out; omega), rowD_of hO rfl h6 hz, rowD_of hO2 rfl h62 hz2⟩, bW⟩
    · go_wp2_with (first | (go_at_call 53; refine (tasksFor_ats ⟨w.heap.size, A, n, c, cs, w.heap.size + 1⟩ _ _ (by have h9 := hC.lt; simp only at h9 ⊢; omega) hC (by omega) hT5).mono ?_; rintro e w5 ⟨v5, zs, rfl, hg5, hC, hO5, h65, hz5⟩; dsimp only at hg5; have hD := hD.grown hg5 hlt; have hO := own_grown hO hg5 hlt2; have hO2 := own_grown hO2 hg5 hlt2; have bW := below_gr bW hg5 (Nat.le_refl _)))
      go_returns
      exact ⟨_, _, _, _, T, zs, ds, ts, rfl, ⟨hD.tabD hT, rowL_of hO5 rfl h65, rowD_of hO rfl h6 hz, rowD_of hO2 rfl h62 hz2⟩, bW⟩
end Go.Proofs.Ytallgjobljkgnaa
