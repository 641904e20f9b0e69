/-
  The assignment chapter's draw of a table. Conditions: a cursor that has drawn less than 2^48 times.
-/
import Derived.Test.YtallgjobljkgnaaTD
import Derived.Test.YtallgjobljkgnaaCX
namespace Go.Proofs.Ytallgjobljkgnaa
open Go Go.RowKit
set_option maxRecDepth 100000
set_option maxHeartbeats 8000000

/-- what the draws of a table say of it -/
abbrev tabI (T : List (List Int)) : Prop := T.length ≤ 5 ∧ ∀ xs ∈ T, xs.length ≤ 6 ∧ ∀ x ∈ xs, I64 x
theorem i64_snoc {ys : List Int} {x : Int} (h : ∀ y ∈ ys, I64 y) (hx : I64 x) : ∀ y ∈ ys ++ [x], I64 y := fun y hy => by
  rcases List.mem_append.1 hy with h1 | h1
  · exact h y h1
  · rw [List.mem_singleton.1 h1]; exact hx
theorem own_some1' {w : World} {base n : Nat} {t : TypeId} {v : Value} {xs : List Value} (h : w.ownsRow base t 1 v n xs) (hn : 0 < n) : ∃ b c, v = .slice (some ⟨b, 0, none⟩) n c ∧ base ≤ b := by
  rcases own_bk h with ⟨_, rfl⟩ | ⟨g, cap, cs, rfl, hb, _⟩
  · omega
  · exact ⟨g, cap, rfl, hb⟩
theorem own_frozen1 {w : World} {base k n b c : Nat} {t : TypeId} {xs : List Value} (h : w.ownsRow base t k (.slice (some ⟨b, 0, none⟩) n c) n xs) {j : Nat} : w.frozen? ⟨b, j, none⟩ = false := by
  rcases own_bk h with ⟨h1, _⟩ | ⟨g', cap, cs, hv, hb', hB', _⟩
  · cases h1
  · cases hv; exact hB'.frozen j
theorem gb_below {W W' : World} {r : Option Nat} (h : Below W.heap.size W W') : W.grownBy W' r := ⟨h.os, h.tape, h.output, h.size, fun b hb _ => h.block b hb⟩
theorem tabI_set {T : List (List Int)} {N : Nat} {ys : List Int} (h : tabI T) (h1 : ys.length ≤ 6) (h2 : ∀ x ∈ ys, I64 x) : tabI (T.set N ys) :=
  ⟨by rw [List.length_set]; exact h.1, fun xs hx => by
    rcases List.mem_or_eq_of_mem_set hx with h3 | rfl
    · exact h.2 xs h3
    · exact ⟨h1, h2⟩⟩
theorem i64_set {ys : List Int} {j : Nat} {x : Int} (h : ∀ y ∈ ys, I64 y) (hx : I64 x) : ∀ y ∈ ys.set j x, I64 y := fun y hy => by
  rcases List.mem_or_eq_of_mem_set hy with h1 | rfl
  · exact h y h1
  · exact hx
theorem costTable_ty (X : DX) (B : Int) (w : World) (hX : X.base = w.heap.size) (hC : Cur w X B) (hB : B ≤ 281474976710656) :
    Calls Try.prog 52 #[.pointer (some ⟨X.g, 0, none⟩)] w fun e w' => ∃ v T f c, e = .returned v ∧ w.grownBy w' (some X.g) ∧ Cur w' X (B + 4096) ∧ TD w' X.base v T f c ∧ tabI T := by
  obtain ⟨i0, hi0, hz0, hz1, hz2⟩ := info_parts (show (Try.prog.info? 3).map (fun i => (i.zero, i.size, i.bytes)) = some (some (.int .i64 0), 1, 8) from by kernel_rfl)
  obtain ⟨j0, hj0, jz0, jz1, jz2⟩ := info_parts (show (Try.prog.info? 24).map (fun i => (i.zero, i.size, i.bytes)) = some (some (.slice none 0 0), 1, 24) from by kernel_rfl)
  have hgl := cur_lt hC hX
  have hgw : X.g < w.heap.size := hC.lt
  have hGr : w.grownBy w (some X.g) := gb_refl _ _
  go_enter Try.func52, Try.ntmps52
  go_upto_region 2 with (go_at_call 54; refine (pick_ty X _ _ 4 _ hC (by omega) (by omega) (by omega) (by omega)).mono ?_; rintro e w' ⟨v, rfl, hg, hC, x, rfl, x0, x1⟩; have hGr := hGr.trans hg)
  obtain ⟨n, hn⟩ : ∃ n : Nat, 1 + x = (n : Int) := ⟨(1 + x).toNat, by omega⟩
  rw [hn]
  have n1 : 1 ≤ n := by omega
  have n5 : n ≤ 5 := by omega
  clear hn
  have hlt := hGr.size
  go_wp2
  go_loopw [4, 5] (fun v i wr => ∃ (V : Value) (a : Nat) (T : List (List Int)) (f c : Nat → Nat), V = v ∧ i = .int .i64 a ∧ a ≤ n ∧ T.length = a ∧ w.grownBy wr (some X.g) ∧ Cur wr X (B + 2 + 10 * a) ∧ TD wr w.heap.size V T f c ∧ (∀ i j, i < j → j < a → f i < f j) ∧ ∀ xs ∈ T, xs.length = n ∧ ∀ x ∈ xs, I64 x) (fun _ i _ => n - (intOf i).toNat)
  case atStart => exact ⟨_, 0, [], _, _, rfl, rfl, Nat.zero_le _, rfl, gb_alloc hGr _, (hC.alloc _).le (by omega), TD.nil (own_lit' rfl hlt), fun i j h1 h2 => absurd h2 (Nat.not_lt_zero _), by simp⟩
  case round =>
    obtain ⟨V, a, T, f, c, rfl, rfl, ha, hTl, hGr, hC, hD, hin, hT⟩ := hrel
    have hlt := hGr.size
    by_cases hlt2 : a < n
    · have i1 : decide ((a : Int) < (n : Int)) = true := decide_eq_true (by omega)
      have i2 : decide (a < n) = true := decide_eq_true hlt2
      go_upto_region 7 with fail
      obtain ⟨b0, hb0⟩ : ∃ b, wr.heap.size = b := ⟨_, rfl⟩
      obtain ⟨hv0, hf0⟩ := hD.lt
      rw [hb0] at hv0 hf0 hlt
      have HB0 := Lib.hid hb0
      have HV0 := Lib.hid hv0
      have HF0 := Lib.hid hf0
      clear hb0 hv0 hf0
      go_wp2
      go_loopw [6, 7] (fun u i wq => ∃ (U : Value) (b : Nat) (ys : List Int), U = u ∧ i = .int .i64 b ∧ b ≤ n ∧ ys.length = b ∧ w.grownBy wq (some X.g) ∧ Cur wq X (B + 2 + 10 * a + 2 * b) ∧ TD wq w.heap.size V T f c ∧ wq.ownsRow b0 3 1 U b (ints ys) ∧ (∃ ub uc, U = .slice (some ⟨ub, 0, none⟩) b uc) ∧ ∀ y ∈ ys, I64 y) (fun _ i _ => n - (intOf i).toNat)
      case atStart => exact ⟨_, 0, [], rfl, rfl, Nat.zero_le _, rfl, gb_alloc hGr _, (hC.alloc _).le (by omega), hD.below (balloc (Below.refl _ _) _), own_lit' rfl (Nat.le_of_eq HB0.out.symm), ⟨_, _, rfl⟩, by simp⟩
      case round =>
        obtain ⟨U, b, ys, rfl, rfl, hb, hyl, hGr, hC, hD, hO, ⟨ub, uc, rfl⟩, hy⟩ := hrel
        have hlt3 := hGr.size
        have hub := (hO.lt ub rfl).2
        have hub0 := (hO.lt ub rfl).1
        by_cases hbt : b < n
        · have k1 : decide ((b : Int) < (n : Int)) = true := decide_eq_true (by omega)
          have k2 : decide (b < n) = true := decide_eq_true hbt
          go_wp2_with (first
            | (go_at_call 76; refine (among_ty X _ _ (hC.alloc _) (by omega) (Good.lit' rfl (by simp) (by simp [sm_int])) (by have := hC.lt; omega) (by omega) (by omega) (by omega)).mono ?_; rintro e w' ⟨vv, rfl, hg, hC, y, rfl, y0, y1⟩; have hGr := (gb_alloc hGr _).trans hg; have hO := own_grown (own_alloc hO _) hg (by omega); have hD := (hD.below (balloc (Below.refl _ _) _)).grown hg hgw; have hlt4 := hGr.size; have hub1 := (hO.lt ub rfl).2)
            | (at_builtin; refine wpList_append_own_at _ rfl (.tmp 23) (.tmp 27) 24 rfl b0 3 i0 _ 1 8 Try.underlying24 hi0 hz0 hz1 hz2 rfl (by decide) _ _ _ rfl (own_alloc hO _) ⟨_, 0, none⟩ 1 1 [.int .i64 y] rfl rfl ?c1 ?c2 ?c3 ?c4 ?c5 ?_))
          case c1 => exact ((Bk.new' (t := 3) (cs := [.int .i64 y]) (g := w'.heap.size) (by simp)).rd (k := 1) (n := 1) rfl).news
          case c2 => (intro u hu; simp at hu; subst hu; rfl)
          case c3 => (unfold maxLen; omega)
          case c4 => omega
          case c5 => (simp; omega)
          intro v' w1 hown' hgrow _ hat
          have hC := cur_own (hC.alloc _) (own_alloc hO _) (by omega) (by omega) hgrow
          have hGr := gb_own (gb_alloc hGr _) (own_weaken (base' := w.heap.size) (own_alloc hO _) hlt) hgrow
          have hD := (hD.below (balloc (Below.refl _ _) _)).apart_base (own_alloc hO _) HV0.out HF0.out hgrow
          rw [← ints_snoc] at hown'
          obtain ⟨ub', uc', rfl, _⟩ := own_some1' hown' (by omega)
          have hy := i64_snoc hy ⟨y0, y1⟩
          go_wp2
          go_roundw
          case rel => exact ⟨_, b + 1, ys ++ [y], rfl, by go_num, by omega, by simp; omega, hGr, hC.le (by omega), hD, hown', ⟨_, _, rfl⟩, hy⟩
          case measure => simp [intOf]; omega
        · have k1 : decide ((b : Int) < (n : Int)) = false := decide_eq_false (by omega)
          have k2 : decide (b < n) = false := decide_eq_false hbt
          have hbn : b = n := by omega
          have hab : a < n := hlt2
          have HBN := Lib.hid hbn
          have HYL := Lib.hid hyl
          have HTL := Lib.hid hTl
          have HIN := Lib.hid hin
          clear hbn hyl hTl hin
          go_wp2_with (at_builtin; refine wpList_append_own_at _ rfl (.tmp 29) (.tmp 31) 22 rfl w.heap.size 24 j0 _ 1 24 Try.underlying22 hj0 jz0 jz1 jz2 rfl (by decide) _ _ _ rfl (own_alloc hD.outer _) ⟨_, 0, none⟩ 1 1 [.slice (some ⟨ub, 0, none⟩) b uc] rfl rfl ?d1 ?d2 ?d3 ?d4 ?d5 ?_)
          case d1 => exact ((Bk.new' (t := 24) (cs := [.slice (some ⟨ub, 0, none⟩) b uc]) (g := _) rfl).rd (k := 1) (n := 1) rfl).news
          case d2 => (intro u hu; simp at hu; subst hu; rfl)
          case d3 => (have := HTL.out; unfold maxLen; omega)
          case d4 => (have := HTL.out; omega)
          case d5 => (simp; omega)
          intro v' w1 hown' hgrow _ hat
          have hC := cur_own (hC.alloc _) (own_alloc hD.outer _) hgw (Nat.le_of_eq hX) hgrow
          have hGr := gb_own (gb_alloc hGr _) (own_alloc hD.outer _) hgrow
          have hyl := HYL.out
          subst hyl
          have hD2 := (hD.below (balloc (Below.refl _ _) _)).snoc (own_weaken (base' := w.heap.size) (own_alloc hO _) hlt) hown' hgrow
          have hf0 := HF0.out
          have hTl := HTL.out
          have hin := HIN.out
          have hin2 : ∀ i j, i < j → j < a + 1 → (if i = T.length then ub else f i) < (if j = T.length then ub else f j) := fun i j h1 h2 => by
            rw [if_neg (by omega)]
            split
            · have := hf0 i (by omega); omega
            · exact hin i j h1 (by omega)
          have hT2 : ∀ xs ∈ T ++ [ys], xs.length = n ∧ ∀ x ∈ xs, I64 x := fun xs hx => by
            rcases List.mem_append.1 hx with h | h
            · exact hT xs h
            · rw [List.mem_singleton.1 h]; exact ⟨HBN.out, hy⟩
          have HI2 := Lib.hid hin2
          have HD2 := Lib.hid hD2
          have hl2 : (T ++ [ys]).length = a + 1 := by simp; omega
          have HL2 := Lib.hid hl2
          clear hf0 hTl hin hin2 hD2 hl2
          go_wp2
          go_roundw
          case rel => exact ⟨_, a + 1, T ++ [ys], _, _, rfl, by go_num, by omega, HL2.out, hGr, hC.le (by omega), HD2.out, HI2.out, hT2⟩
          case measure => simp [intOf]; omega
    · have i1 : decide ((a : Int) < (n : Int)) = false := decide_eq_false (by omega)
      have i2 : decide (a < n) = false := decide_eq_false hlt2
      have han : a = n := by omega
      have HTL := Lib.hid hTl
      have HIN := Lib.hid hin
      have HAN := Lib.hid han
      clear hTl hin han
      go_upto_region 13 with (first | (go_at_call 54; refine (pick_ty X _ _ 31 _ hC (by omega) (by omega) (by omega) (by omega)).mono ?_; rintro e w' ⟨v, rfl, hg, hC, x, rfl, x0, x1⟩; have hGr := hGr.trans hg; have hD := hD.grown hg hgw))
      have hT5 : tabI T := ⟨by have := HTL.out; omega, fun xs hx => ⟨by have := (hT xs hx).1; omega, (hT xs hx).2⟩⟩
      by_cases e0 : x = 0
      · subst e0
        have hin := HIN.out
        have hTl := HTL.out
        have han := HAN.out
        have hTn : 0 < T.length := by omega
        have hinj : ∀ i, i < T.length → i ≠ 0 → f i ≠ f 0 := fun i hi h0 => by have := hin 0 i (by omega) (by omega); omega
        obtain ⟨bo, cc, rfl, hbo⟩ := own_some1' hD.outer hTn
        have hwr := hGr.size
        have hr0 : 0 < (row T 0).length := by have := (hT _ (row_mem hTn)).1; omega
        · have ne : f 0 ≠ bo := fun e => own_types (hD.rows 0 hTn) hD.outer (b := f 0) rfl (by rw [e]; rfl)
          have hfin : ∀ W y, TD W w.heap.size (.slice (some ⟨bo, 0, none⟩) T.length cc) T f c → I64 y → TD (W.setCell ⟨f 0, 0, none⟩ (.int .i64 y)) w.heap.size (.slice (some ⟨bo, 0, none⟩) T.length cc) (T.set 0 ((row T 0).set 0 y)) f c ∧ tabI (T.set 0 ((row T 0).set 0 y)) := fun W y h hy =>
            ⟨h.seti hTn hinj, tabI_set hT5 (by rw [List.length_set]; exact (hT5.2 _ (row_mem hTn)).1) (i64_set (hT5.2 _ (row_mem hTn)).2 hy)⟩
          have HD := Lib.hid hD
          have HJ := Lib.hid hinj
          have HTn := Lib.hid hTn
          obtain ⟨f0, hf0⟩ : ∃ x, f 0 = x := ⟨_, rfl⟩
          obtain ⟨m0, hm0⟩ : ∃ x, (row T 0).length = x := ⟨_, rfl⟩
          obtain ⟨c0, hc0⟩ : ∃ x, c 0 = x := ⟨_, rfl⟩
          have facts : ∀ W, TD W w.heap.size (.slice (some ⟨bo, 0, none⟩) T.length cc) T f c → W.cell? ⟨bo, 0, none⟩ = some (.slice (some ⟨f0, 0, none⟩) m0 c0) ∧ bo < W.heap.size ∧ (∃ y, W.cell? ⟨f0, 0, none⟩ = some (.int .i64 y)) ∧ W.frozen? ⟨f0, 0, none⟩ = false ∧ f0 < W.heap.size := fun W h => by
            obtain ⟨b1, o1, e1, hb1, k1⟩ := (own_r h.outer).2 hTn
            cases e1
            have k2 := k1 0 _ (tdVs_get hTn)
            rw [hf0, hm0, hc0] at k2
            have h3 := h.rows 0 hTn
            rw [hf0] at h3
            obtain ⟨b2, o2, e2, hb2, k3⟩ := (own_r h3).2 hr0
            cases e2
            exact ⟨k2, hb1, ⟨_, k3 0 _ (ints_get _ 0 hr0)⟩, own_frozen1 h3, hb2⟩
          obtain ⟨g1, g2, ⟨y0, g3⟩, g4, g5⟩ := facts _ hD
          have i5 : (0 : Int) < (T.length : Int) := by omega
          have i6 : (0 : Int) < (m0 : Int) := by omega
          have hfw := ((hD.rows 0 hTn).lt (f 0) rfl).1
          rw [hm0] at hr0
          rw [hf0] at ne hfw hfin
          have HFIN := Lib.hid hfin
          clear hfin
          have HF := Lib.hid hf0
          have HM0 := Lib.hid hm0
          clear hD hinj hTl han hin hf0 hm0 hc0 hTn
          go_upto_region 14 with fail
          go_region_with (first | (go_at_call 76; refine (among_ty X _ _ (by first | exact hC.alloc _ | exact hC.drew.alloc _ | exact (hC.alloc _).drew) (by omega) (by first | exact Good.lit' rfl (by simp) (by simp [sm_int]) | exact Good.lit' (by simp) (by simp) (by simp [sm_int])) (by have := hC.lt; omega) (by omega) (by omega) (by omega)).mono ?_; rintro e w2 ⟨vv, rfl, hg2, hC2, y, rfl, y0', y1'⟩; have hD2 := (HD.out.below (show Below w'.heap.size w' _ from by (repeat' (first | (with_reducible exact Below.refl _ _) | (with_reducible assumption) | (with_reducible refine balloc ?_ _) | (with_reducible refine bdrew ?_) | (with_reducible refine bdrewN ?_ _) | (with_reducible refine bstep ?_ (by assumption)) | (with_reducible refine bset ?_ ?_ _) | (exact Below.size (by assumption)) | go_size)))).grown hg2 hgw; obtain ⟨g1', g2', ⟨y0'', g3'⟩, g4', g5'⟩ := facts _ hD2; have HD2 := Lib.hid hD2; clear hD2; have hGr2 := hGr.trans ((gb_below (show Below w'.heap.size w' _ from by (repeat' (first | (with_reducible exact Below.refl _ _) | (with_reducible assumption) | (with_reducible refine balloc ?_ _) | (with_reducible refine bdrew ?_) | (with_reducible refine bdrewN ?_ _) | (with_reducible refine bstep ?_ (by assumption)) | (with_reducible refine bset ?_ ?_ _) | (exact Below.size (by assumption)) | go_size)))).trans hg2)))
          all_goals (go_wp2; go_returns; exact ⟨_, _, _, _, rfl, gb_set hGr2 hfw, (hC2.set (by omega) (by omega) (sm_int.2 ⟨y0', y1'⟩)).le (by omega), by rw [hX]; exact (HFIN.out _ _ HD2.out ⟨y0', y1'⟩).1, (HFIN.out _ _ HD2.out ⟨y0', y1'⟩).2⟩)
      · have q0 : (x == (0 : Int)) = false := by simp; omega
        by_cases e1 : x = 1
        · subst e1
          have hin := HIN.out
          have hTl := HTL.out
          have han := HAN.out
          obtain ⟨N, hN⟩ : ∃ N, n = N + 1 := ⟨n - 1, by omega⟩
          have hNT : N < T.length := by omega
          have hinj : ∀ i, i < T.length → i ≠ N → f i ≠ f N := fun i hi h0 => by have := hin i N (by omega) (by omega); omega
          obtain ⟨bo, cc, rfl, hbo⟩ := own_some1' hD.outer (by omega)
          have hwr := hGr.size
          have hrow : (row T N).length = n ∧ ∀ x ∈ row T N, I64 x := hT _ (row_mem hNT)
          obtain ⟨ys, hys⟩ : ∃ x, row T N = x := ⟨_, rfl⟩
          obtain ⟨m0, hm0⟩ : ∃ x, (row T N).length = x := ⟨_, rfl⟩
          have hO := hD.rows N hNT
          obtain ⟨fN, hfN⟩ : ∃ x, f N = x := ⟨_, rfl⟩
          obtain ⟨cN, hcN⟩ : ∃ x, c N = x := ⟨_, rfl⟩
          obtain ⟨b1, o1, eb, hb1, kk⟩ := (own_r hD.outer).2 (by omega)
          cases eb
          have k1 := kk N _ (tdVs_get hNT)
          rw [hm0, hfN, hcN] at hO k1
          rw [hys] at hO hrow hm0
          have hys64 := hrow.2
          rw [Nat.zero_add] at k1
          have ne : fN ≠ bo := fun e => own_types hO hD.outer (b := fN) rfl (by rw [e]; rfl)
          have i5 : (N : Int) < (T.length : Int) := by omega
          have i6 : IntKind.i64.wrap ((n : Int) - 1) = (N : Int) := by rw [IntKind.wrap_i64]; omega
          have i7 : wrap64 ((n : Int) - 1) = (N : Int) := by simp only [wrap64]; omega
          have i8 : (0 : Int) ≤ (N : Int) := by omega
          have h05 : m0 ≤ 5 := by omega
          have hfin : ∀ (W W1 : World) (b' c' : Nat), TD W w.heap.size (.slice (some ⟨bo, 0, none⟩) T.length cc) T f c → W1.ownsRow w.heap.size 3 1 (.slice (some ⟨b', 0, none⟩) (m0 + 1) c') (m0 + 1) (ints ys ++ [.int .i64 1]) → W.grownBy W1 (some fN) → TD (W1.setCell ⟨bo, N, none⟩ (.slice (some ⟨b', 0, none⟩) (m0 + 1) c')) w.heap.size (.slice (some ⟨bo, 0, none⟩) T.length cc) (T.set N (ys ++ [1])) (fun i => if i = N then b' else f i) (fun i => if i = N then c' else c i) ∧ tabI (T.set N (ys ++ [1])) := fun W W1 b' c' h h1 h2 =>
            ⟨h.setrow rfl hNT (by rw [ints_snoc]; exact h1) (by simp; omega) (by rw [hfN]; exact h2) hinj, tabI_set hT5 (by simp; omega) (i64_snoc hys64 ⟨by decide, by decide⟩)⟩
          have HFIN := Lib.hid hfin
          have HYS := Lib.hid hys
          have hfw := (hO.lt fN rfl).1
          have HD := Lib.hid hD
          have HJ := Lib.hid hinj
          have HM0 := Lib.hid hm0
          have HFN := Lib.hid hfN
          have HTL2 := Lib.hid hTl
          have HNT := Lib.hid hNT
          clear hD hinj hm0 hfN hTl han hN hcN kk hin hfin hys
          go_upto_region 16 with fail
          go_wp2_with (at_builtin; refine wpList_append_own_at _ rfl (.tmp 53) (.tmp 54) 24 rfl w.heap.size 3 i0 _ 1 8 Try.underlying24 hi0 hz0 hz1 hz2 rfl (by decide) _ _ _ rfl (own_alloc hO _) ⟨_, 0, none⟩ 1 1 [.int .i64 1] rfl rfl ?e1 ?e2 ?e3 ?e4 ?e5 ?_)
          case e1 => exact ((Bk.new' (t := 3) (cs := [.int .i64 1]) (g := _) rfl).rd (k := 1) (n := 1) rfl).news
          case e2 => (intro u hu; simp at hu; subst hu; rfl)
          case e3 => (unfold maxLen; omega)
          case e4 => omega
          case e5 => (simp; omega)
          intro v' w1 hown' hgrow _ hat
          have hC := cur_own (hC.alloc _) (own_alloc hO _) hgw (Nat.le_of_eq hX) hgrow
          have hGr := gb_own (gb_alloc hGr _) (own_alloc hO _) hgrow
          obtain ⟨b', c', rfl, hbb'⟩ := own_some1' hown' (by omega)
          have hD1 : TD (w'.alloc (.cells #[.int .i64 1] 3)) _ _ _ _ _ := HD.out.below (balloc (Below.refl _ _) _)
          have hou := own_apart hD1.outer hgrow (fun b e he => ne (by cases e; exact (Option.some.inj he).symm))
          have hfin := HFIN.out _ _ b' c' hD1 hown' hgrow
          have HFI := Lib.hid hfin
          obtain ⟨b1, o1, eb, hb1', kk⟩ := (own_r hou).2 (by omega)
          cases eb
          have k2 := kk N _ (tdVs_get HNT.out)
          rw [Nat.zero_add] at k2
          have hfz := own_frozen1 hou (j := N)
          clear kk hfin hou
          go_wp2
          go_returns
          exact ⟨_, _, _, _, rfl, gb_set hGr (by omega), (curL_set hC (by omega) (fun h0 a ha => by have := (hC.ne h0 a ha).1; omega)).le (by omega), by rw [hX]; exact HFI.out.1, HFI.out.2⟩
        · have q1 : (x == (1 : Int)) = false := by simp; omega
          by_cases e2 : x = 2
          · subst e2
            have hw2 := hGr.size
            go_wp2
            go_returns
            exact ⟨_, [], _, _, rfl, gb_alloc hGr _, (hC.alloc _).le (by omega), TD.nil (own_lit' rfl (by omega)), ⟨by simp, by simp⟩⟩
          · have q2 : (x == (2 : Int)) = false := by simp; omega
            go_wp2
            go_returns
            exact ⟨_, T, f, c, rfl, hGr, hC.le (by omega), by rw [hX]; exact hD, hT5⟩
end Go.Proofs.Ytallgjobljkgnaa
