/-
  The moisture chapter's draw of a mixture. Conditions: the text is no longer than 2^16.
-/
import Derived.Test.YtlnfccncbfpoiaaCD
namespace Go.Proofs.Ytlnfccncbfpoiaa
open Go.RowKit
set_option maxRecDepth 100000
set_option maxHeartbeats 4000000

theorem two_app {W w1 : World} {base k n6 : Nat} {t : TypeId} {v5 v5' v6 : Value} {xs6 : List Value} (h6 : W.ownsRow base t k v6 n6 xs6) (hne : v5.ownBlock ≠ v6.ownBlock) (hgr : W.grownBy w1 v5.ownBlock) (hat : v5'.ownBlock = v5.ownBlock ∨ v5'.ownBlock = some W.heap.size) :
    w1.ownsRow base t k v6 n6 xs6 ∧ v5'.ownBlock ≠ v6.ownBlock := by
  refine ⟨h6.kept hgr (.inr (fun e => hne e.symm)), ?_⟩
  rcases hat with e | e
  · rw [e]; exact hne
  · rw [e]
    intro e2
    have := (h6.lt _ e2.symm).2
    omega
theorem fubF_add (zs : List FuelbedT) (a : FuelbedT) : fubF (zs ++ [a]) = fubF zs ++ [.int .i64 a.1, .int .i64 a.2] := by simp [fubF, fubE]
theorem ints_add (zs : List Int) (a : Int) : ints (zs ++ [a]) = ints zs ++ [.int .i64 a] := by simp [ints]
/-- the two lists that are drawn side by side -/
structure Two (base : Nat) (W : World) (v5 v6 : Value) (zs : List FuelbedT) (ps : List Int) : Prop where
  o5 : W.ownsRow base 25 2 v5 zs.length (fubF zs)
  o6 : W.ownsRow base 3 1 v6 ps.length (ints ps)
  ne : v5.ownBlock ≠ v6.ownBlock
theorem Two.gr {base g : Nat} {W w' : World} {v5 v6 : Value} {zs : List FuelbedT} {ps : List Int} (h : Two base W v5 v6 zs ps) (hg : W.grownBy w' (some g)) (hb : g < base) : Two base w' v5 v6 zs ps :=
  ⟨own_grown h.o5 hg hb, own_grown h.o6 hg hb, h.ne⟩
theorem Two.alloc {base : Nat} {W : World} {v5 v6 : Value} {zs : List FuelbedT} {ps : List Int} (h : Two base W v5 v6 zs ps) (o : Obj) : Two base (W.alloc o) v5 v6 zs ps :=
  ⟨own_alloc h.o5 o, own_alloc h.o6 o, h.ne⟩
theorem Two.five {base : Nat} {W w1 : World} {v5 v5' v6 : Value} {zs : List FuelbedT} {ps : List Int} {x y : Int} (h : Two base W v5 v6 zs ps) (hO : w1.ownsRow base 25 2 v5' (zs.length + 1) (fubF zs ++ [.int .i64 x, .int .i64 y])) (hgr : W.grownBy w1 v5.ownBlock) (hat : v5'.ownBlock = v5.ownBlock ∨ v5'.ownBlock = some W.heap.size) :
    Two base w1 v5' v6 (zs ++ [(x, y)]) ps := by
  obtain ⟨a, b⟩ := two_app h.o6 h.ne hgr hat
  exact ⟨by rw [fubF_add, List.length_append]; exact hO, a, b⟩
theorem Two.six {base : Nat} {W w1 : World} {v5 v6 v6' : Value} {zs : List FuelbedT} {ps : List Int} {x : Int} (h : Two base W v5 v6 zs ps) (hO : w1.ownsRow base 3 1 v6' (ps.length + 1) (ints ps ++ [.int .i64 x])) (hgr : W.grownBy w1 v6.ownBlock) (hat : v6'.ownBlock = v6.ownBlock ∨ v6'.ownBlock = some W.heap.size) :
    Two base w1 v5 v6' zs (ps ++ [x]) := by
  obtain ⟨a, b⟩ := two_app h.o5 (fun e => h.ne e.symm) hgr hat
  exact ⟨a, by rw [ints_add, List.length_append]; exact hO, fun e => b e.symm⟩
theorem five_one (x y : Int) : ∀ u ∈ [Value.int .i64 x, .int .i64 y], u.oneCell' = true := by intro u hu; simp at hu; rcases hu with rfl | rfl <;> rfl
theorem six_one (x : Int) : ∀ u ∈ [Value.int .i64 x], u.oneCell' = true := by intro u hu; simp at hu; subst hu; rfl
theorem Two.shape6 {base : Nat} {W : World} {v5 v6 : Value} {zs : List FuelbedT} {ps : List Int} (h : Two base W v5 v6 zs ps) (h0 : 0 < ps.length) : ∃ b n c, v6 = .slice (some ⟨b, 0, none⟩) n c := by
  rcases own_bk h.o6 with ⟨_, e⟩ | ⟨g, cap, cs, e, _⟩
  · omega
  · exact ⟨g, _, cap, e⟩
theorem Two.cell0 {base b n c : Nat} {W : World} {v5 : Value} {zs : List FuelbedT} {ps : List Int} (h : Two base W v5 (.slice (some ⟨b, 0, none⟩) n c) zs ps) (h0 : 0 < ps.length) : (∃ u, W.cell? ⟨b, 0, none⟩ = some u) ∧ W.frozen? ⟨b, 0, none⟩ = false ∧ b < W.heap.size ∧ base ≤ b := by
  rcases own_bk h.o6 with ⟨_, e⟩ | ⟨g, cap, cs, e, hb, hB, h1, h2, h3, h4⟩
  · omega
  · simp only [Value.slice.injEq, Option.some.injEq, Addr.mk.injEq, and_true] at e
    obtain ⟨rfl, rfl, rfl⟩ := e
    exact ⟨⟨cs[0]'(by rw [h3]; omega), by rw [hB.cell, List.getElem?_eq_getElem]⟩, hB.frozen 0, hB.lt, hb⟩
theorem mix_end {w W : World} {v5 v6 : Value} {zs : List FuelbedT} {ps : List Int} (h : Two (w.heap.size + 1) W v5 v6 zs ps) (h5 : zs.length ≤ 64) (h6 : ps.length ≤ 64) (bW : Below w.heap.size w W) :
    ∃ A1 n1 c1 zs A2 n2 c2 ps, Ending.returned (.tuple #[v5, v6]) = .returned (.tuple #[.slice A1 n1 c1, .slice A2 n2 c2]) ∧ (n1 ≤ 64 ∧ zs.length = n1 ∧ Rd W 2 A1 n1 (fubF zs) ∧ n2 ≤ 64 ∧ ps.length = n2 ∧ Rd W 1 A2 n2 (ints ps)) ∧ Below w.heap.size w W := by
  obtain ⟨A1, c1, rfl, r1, _⟩ := own_rd h.o5
  obtain ⟨A2, c2, rfl, r2, _⟩ := own_rd h.o6
  exact ⟨A1, _, c1, zs, A2, _, c2, ps, rfl, ⟨h5, rfl, r1, h6, rfl, r2⟩, bW⟩
theorem Two.set0 {base b o n c : Nat} {W : World} {v5 : Value} {zs : List FuelbedT} {ps : List Int} {x : Int} (h : Two base W v5 (.slice (some ⟨b, 0, none⟩) n c) zs ps) (_ho : o = 0) (_h0 : 0 < ps.length) : Two base (W.setCell ⟨b, o, none⟩ (.int .i64 x)) v5 (.slice (some ⟨b, 0, none⟩) n c) zs (ps.set 0 x) := by
  subst _ho
  refine ⟨?_, ?_, h.ne⟩
  · refine h.o5.kept (onlySet W ⟨b, 0, none⟩ _) (.inr ?_)
    exact h.ne
  · rcases own_bk h.o6 with ⟨e, _⟩ | ⟨g, cap, cs, e, hb, hB, h1, h2, h3, h4⟩
    · cases e
    · simp only [Value.slice.injEq, Option.some.injEq, Addr.mk.injEq, and_true] at e
      obtain ⟨rfl, rfl, rfl⟩ := e
      have := bk_own (n := ps.length) (k := 1) hb (hB.set_ 0 (.int .i64 x)) h1 h2 (by rw [List.length_set]; exact h3) (xs := ints (ps.set 0 x)) (by
        rw [List.take_set, h4]
        simp [ints, List.map_set])
      rw [List.length_set]
      exact this
theorem DrawMixMoisture_any (A : Option Addr) (n c : Nat) (cs : List Value) (w : World) (hc : Code w A n cs) :
    Calls Try.prog 29 #[.slice A n c] w fun e w' => ∃ A1 n1 c1 zs A2 n2 c2 ps, e = .returned (.tuple #[.slice A1 n1 c1, .slice A2 n2 c2]) ∧ (n1 ≤ 64 ∧ zs.length = n1 ∧ Rd w' 2 A1 n1 (fubF zs) ∧ n2 ≤ 64 ∧ ps.length = n2 ∧ Rd w' 1 A2 n2 (ints ps)) ∧ Below w.heap.size w w' := by
  obtain ⟨i5, h5i, h5z0, h5z1, h5z2⟩ := info_parts (show (Try.prog.info? 25).map (fun i => (i.zero, i.size, i.bytes)) = some (some (.agg #[.int .i64 0, .int .i64 0]), 2, 16) from by kernel_rfl)
  obtain ⟨i6, h6i, h6z0, h6z1, h6z2⟩ := info_parts (show (Try.prog.info? 3).map (fun i => (i.zero, i.size, i.bytes)) = some (some (.int .i64 0), 1, 8) from by kernel_rfl)
  go_enter Try.func29, Try.ntmps29
  go_upto_region 3 with fail
  refine wp_genC (fun W => Below w.heap.size w W ∧ Cur W ⟨w.heap.size, A, n, c, cs, w.heap.size + 1⟩ 0 ∧ Two (w.heap.size + 1) W (.slice (some ⟨w.heap.size + 1, 0, none⟩) 0 0) (.slice (some ⟨w.heap.size + 1 + 1, 0, none⟩) 0 0) [] []) ⟨by (repeat' (first | (with_reducible exact Below.refl _ _) | (with_reducible assumption) | (with_reducible refine balloc ?_ _) | (with_reducible refine bdrew ?_) | (with_reducible refine bdrewN ?_ _) | (with_reducible refine bstep ?_ (by assumption)) | (with_reducible refine bset ?_ ?_ _) | (exact Below.size (by assumption)) | go_size)), ((Cur.made hc (Below.refl _ _) rfl).alloc _).alloc _, (by exact ⟨own_alloc (own_lit' (by simp) (by simp)) _, own_lit' (by simp) (by simp), by simp [Value.ownBlock]⟩)⟩ ?_
  intro W ⟨bW, hC, hT⟩
  have hgl := hC.lt
  dsimp only at hgl
  go_upto_region 4 with (go_at_call 49; refine (pick_ty ⟨w.heap.size, A, n, c, cs, w.heap.size + 1⟩ _ _ 4 _ hC (by omega) (by omega) (by omega) (by omega)).mono ?_; rintro e w' ⟨v, rfl, hg, hC, x, rfl, x0, x1⟩; dsimp only at hg; have bW := below_gr bW hg (Nat.le_refl _); have hT := hT.gr hg (by omega))
  have hs0 := hC.lt
  dsimp only at hs0
  go_loopw [5, 6, 7] (fun v5 v6 i wr => ∃ (j : Int) (zs : List FuelbedT) (ps : List Int), i = .int .i64 j ∧ 0 ≤ j ∧ j ≤ 4 ∧ (zs.length : Int) + j ≤ 4 ∧ ps.length = zs.length ∧ Below w.heap.size w wr ∧ Cur wr ⟨w.heap.size, A, n, c, cs, w.heap.size + 1⟩ (2 + 66 * (4 - j)) ∧ Two (w.heap.size + 1) wr v5 v6 zs ps) (fun _ _ i _ => (intOf i).toNat)
  case atStart => exact ⟨x, [], [], rfl, x0, x1, by simpa using x1, rfl, bW, hC.le (by omega), hT⟩
  case round =>
    clear hT hC bW
    obtain ⟨j, zs, ps, rfl, j0, j1, jl, hps, bW, hC, hT⟩ := hrel
    have hsz := hC.lt
    dsimp only at hsz
    by_cases hj : 0 < j
    · have i1 : decide (0 < j) = true := decide_eq_true hj
      go_wp2_with (first | (go_at_call 32; refine (fuelbed_ats ⟨w.heap.size, A, n, c, cs, w.heap.size + 1⟩ _ _ hC.lt hC (by omega)).mono ?_; rintro e w' ⟨x, y, rfl, hg, hC, hx, hy⟩; dsimp only at hg; have bW := below_gr bW hg (Nat.le_refl _); have hT := hT.gr hg (Nat.lt_succ_self _); have hsz := hC.lt; dsimp only at hsz) | (at_builtin; refine wpList_append_own_at _ rfl (.tmp 19) (.tmp 22) 50 rfl (w.heap.size + 1) 25 i5 _ 2 16 Try.underlying50 h5i h5z0 h5z1 h5z2 rfl (by decide) _ _ _ rfl ((hT.alloc _).o5) ⟨_, 0, none⟩ 1 1 [.int .i64 x, .int .i64 y] rfl rfl ?c1 ?c2 ?c3 ?c4 ?c5 ?_))
      case c1 => exact ((Bk.new' (t := 25) (cs := [.int .i64 x, .int .i64 y]) (g := w'.heap.size) (by simp)).rd (k := 2) (n := 1) rfl).news
      case c2 => exact five_one _ _
      case c3 => (unfold maxLen; omega)
      case c4 => omega
      case c5 => (simp; omega)
      intro v5' w1 hown' hgrow _ hat
      have bW := own_grownBy (hT.alloc _).o5 (balloc bW _) hgrow (Nat.le_succ _) (by simp; omega)
      have hC := cur_own (hC.alloc _) (hT.alloc _).o5 (Nat.lt_succ_self _) (Nat.le_refl _) hgrow
      have hT := (hT.alloc _).five hown' hgrow (by rw [World.size_alloc]; exact hat)
      have hsz := hC.lt
      dsimp only at hsz
      go_wp2_with (first | (go_at_call 48; refine (among_ty ⟨w.heap.size, A, n, c, cs, w.heap.size + 1⟩ _ _ (hC.alloc _) (by omega) (Good.lit' (by simp) (by simp) (by simp [sm_int])) (by simp only; omega) (by omega) (by omega) (by omega)).mono ?_; rintro e w' ⟨v, rfl, hg, hC, x, rfl, x0, x1⟩; dsimp only at hg; have bW := below_gr (balloc bW _) hg (Nat.le_refl _); have hT := (hT.alloc _).gr hg (Nat.lt_succ_self _); have hsz := hC.lt; dsimp only at hsz) | (at_builtin; refine wpList_append_own_at _ rfl (.tmp 24) (.tmp 28) 38 rfl (w.heap.size + 1) 3 i6 (.int .i64 0) 1 8 Try.underlying38 h6i h6z0 h6z1 h6z2 rfl (by decide) _ _ _ rfl ((hT.alloc _).o6) ⟨_, 0, none⟩ 1 1 [.int .i64 x] rfl rfl ?c1 ?c2 ?c3 ?c4 ?c5 ?_))
      case c1 => exact ((Bk.new' (t := 3) (cs := [.int .i64 x]) (g := w'.heap.size) (by simp)).rd (k := 1) (n := 1) rfl).news
      case c2 => exact six_one _
      case c3 => (unfold maxLen; omega)
      case c4 => omega
      case c5 => (simp; omega)
      intro v6' w2 hown' hgrow _ hat
      have bW := own_grownBy (hT.alloc _).o6 (balloc bW _) hgrow (Nat.le_succ _) (by simp; omega)
      have hC := cur_own (hC.alloc _) (hT.alloc _).o6 (Nat.lt_succ_self _) (Nat.le_refl _) hgrow
      have hT := (hT.alloc _).six (by first | exact hown' | (rw [hps]; exact hown')) hgrow (by rw [World.size_alloc]; exact hat)
      have hsz := hC.lt
      dsimp only at hsz
      go_wp2
      go_roundw
      case rel => exact ⟨j - 1, _, _, by go_num, by omega, by omega, by simp; omega, by simp [hps], bW, hC.le (by omega), hT⟩
      case measure => simp [intOf]; omega
    · have i1 : decide (0 < j) = false := decide_eq_false hj
      have hC := hC.le (show 2 + 66 * (4 - j) ≤ (270 : Int) by omega)
      go_upto_region 9 with (first | (go_at_call 49; refine (pick_ty ⟨w.heap.size, A, n, c, cs, w.heap.size + 1⟩ _ _ 23 _ hC (by omega) (by omega) (by omega) (by omega)).mono ?_; rintro e w' ⟨v, rfl, hg, hC, x, rfl, x0, x1⟩; dsimp only at hg; have bW := below_gr bW hg (Nat.le_refl _); have hT := hT.gr hg (Nat.lt_succ_self _); have hsz := hC.lt; dsimp only at hsz))
      by_cases e0 : x = 0
      · subst e0
        go_wp2_with (first | (go_at_call 48; refine (among_ty ⟨w.heap.size, A, n, c, cs, w.heap.size + 1⟩ _ _ (hC.alloc _) (by omega) (Good.lit' (by simp) (by simp) (by simp [sm_int])) (by simp only; omega) (by omega) (by omega) (by omega)).mono ?_; rintro e w' ⟨v, rfl, hg, hC, x, rfl, x0, x1⟩; dsimp only at hg; have bW := below_gr (balloc bW _) hg (Nat.le_refl _); have hT := (hT.alloc _).gr hg (Nat.lt_succ_self _); have hsz := hC.lt; dsimp only at hsz) | (at_builtin; refine wpList_append_own_at _ rfl (.tmp 34) (.tmp 38) 38 rfl (w.heap.size + 1) 3 i6 (.int .i64 0) 1 8 Try.underlying38 h6i h6z0 h6z1 h6z2 rfl (by decide) _ _ _ rfl ((hT.alloc _).o6) ⟨_, 0, none⟩ 1 1 [.int .i64 x] rfl rfl ?c1 ?c2 ?c3 ?c4 ?c5 ?_))
        case c1 => exact ((Bk.new' (t := 3) (cs := [.int .i64 x]) (g := w'.heap.size) (by simp)).rd (k := 1) (n := 1) rfl).news
        case c2 => exact six_one _
        case c3 => (unfold maxLen; omega)
        case c4 => omega
        case c5 => (simp; omega)
        intro v6' w2 hown' hgrow _ hat
        have bW := own_grownBy (hT.alloc _).o6 (balloc bW _) hgrow (Nat.le_succ _) (by simp; omega)
        have hC := cur_own (hC.alloc _) (hT.alloc _).o6 (Nat.lt_succ_self _) (Nat.le_refl _) hgrow
        have hT := (hT.alloc _).six (by first | exact hown' | (rw [hps]; exact hown')) hgrow (by rw [World.size_alloc]; exact hat)
        have hsz := hC.lt
        dsimp only at hsz
        go_wp2
        (go_returns; exact mix_end hT (by first | omega | (simp; omega)) (by first | omega | (simp; omega)) bW)
      · have q0 : (x == (0 : Int)) = false := beq_false_of_ne e0
        by_cases e1 : x = 1
        · subst e1
          go_upto_region 12 with fail
          have hps2 := hps
          obtain ⟨A5, c5, e5, _⟩ := own_rd hT.o5
          go_loopw [5, 6] (fun v5 v6 wr => ∃ (zs : List FuelbedT) (ps : List Int), slN v5 = zs.length ∧ zs.length ≤ 7 ∧ ps.length = zs.length ∧ Below w.heap.size w wr ∧ Cur wr ⟨w.heap.size, A, n, c, cs, w.heap.size + 1⟩ (400 + 2 * (zs.length : Int)) ∧ Two (w.heap.size + 1) wr v5 v6 zs ps) (fun v5 _ _ => 64 - slN v5)
          case atStart => exact ⟨zs, ps, by rw [e5]; rfl, by omega, hps, bW, hC.le (by omega), hT⟩
          case round =>
            obtain ⟨zs, ps, hsl, hl, hps, bW, hC, hT⟩ := hrel
            have hsz := hC.lt
            dsimp only at hsz
            obtain ⟨A5, c5, rfl, _⟩ := own_rd hT.o5
            clear hsl
            go_upto_region 13 with (first | (go_at_call 49; refine (pick_ty ⟨w.heap.size, A, n, c, cs, w.heap.size + 1⟩ _ _ 1 _ hC (by omega) (by omega) (by omega) (by omega)).mono ?_; rintro e w' ⟨v, rfl, hg, hC, x, rfl, x0, x1⟩; dsimp only at hg; have bW := below_gr bW hg (Nat.le_refl _); have hT := hT.gr hg (Nat.lt_succ_self _); have hsz := hC.lt; dsimp only at hsz))
            any_goals (go_returns; exact mix_end hT (by first | omega | (simp; omega)) (by first | omega | (simp; omega)) bW)
            go_wp2_with (at_builtin; refine wpList_append_own_at _ rfl (.tmp 48) (.tmp 50) 50 rfl (w.heap.size + 1) 25 i5 _ 2 16 Try.underlying50 h5i h5z0 h5z1 h5z2 rfl (by decide) _ _ _ rfl ((hT.alloc _).o5) ⟨_, 0, none⟩ 1 1 [.int .i64 1, .int .i64 50] rfl rfl ?c1 ?c2 ?c3 ?c4 ?c5 ?_)
            case c1 => exact ((Bk.new' (t := 25) (cs := [.int .i64 1, .int .i64 50]) (g := w'.heap.size) (by simp)).rd (k := 2) (n := 1) rfl).news
            case c2 => exact five_one _ _
            case c3 => (unfold maxLen; omega)
            case c4 => omega
            case c5 => (simp; omega)
            intro v5' w1 hown' hgrow _ hat
            have bW := own_grownBy (hT.alloc _).o5 (balloc bW _) hgrow (Nat.le_succ _) (by simp; omega)
            have hC := cur_own (hC.alloc _) (hT.alloc _).o5 (Nat.lt_succ_self _) (Nat.le_refl _) hgrow
            have hT := (hT.alloc _).five hown' hgrow (by rw [World.size_alloc]; exact hat)
            have hsz := hC.lt
            dsimp only at hsz
            go_wp2_with (at_builtin; refine wpList_append_own_at _ rfl (.tmp 52) (.tmp 53) 38 rfl (w.heap.size + 1) 3 i6 (.int .i64 0) 1 8 Try.underlying38 h6i h6z0 h6z1 h6z2 rfl (by decide) _ _ _ rfl ((hT.alloc _).o6) ⟨_, 0, none⟩ 1 1 [.int .i64 2] rfl rfl ?c1 ?c2 ?c3 ?c4 ?c5 ?_)
            case c1 => exact ((Bk.new' (t := 3) (cs := [.int .i64 2]) (g := w1.heap.size) (by simp)).rd (k := 1) (n := 1) rfl).news
            case c2 => exact six_one _
            case c3 => (unfold maxLen; omega)
            case c4 => omega
            case c5 => (simp; omega)
            intro v6' w2 hown' hgrow _ hat
            have bW := own_grownBy (hT.alloc _).o6 (balloc bW _) hgrow (Nat.le_succ _) (by simp; omega)
            have hC := cur_own (hC.alloc _) (hT.alloc _).o6 (Nat.lt_succ_self _) (Nat.le_refl _) hgrow
            have hT := (hT.alloc _).six (by first | exact hown' | (rw [hps]; exact hown')) hgrow (by rw [World.size_alloc]; exact hat)
            have hsz := hC.lt
            dsimp only at hsz
            obtain ⟨A7, c7, rfl, _⟩ := own_rd hT.o5
            go_wp2
            go_roundw
            case rel => exact ⟨_, _, by simp [slN], by simp; omega, by simp [hps], bW, hC.le (by simp; omega), hT⟩
            case measure => simp [slN]; omega
        · have q1 : (x == (1 : Int)) = false := beq_false_of_ne e1
          by_cases e2 : x = 2
          · subst e2
            obtain ⟨A6, c6, e6, _⟩ := own_rd hT.o6
            by_cases hp : 0 < ps.length
            · obtain ⟨b, q, r, rfl⟩ := hT.shape6 hp
              simp only [Value.slice.injEq] at e6
              obtain ⟨rfl, rfl, rfl⟩ := e6
              have i2 : decide ((0 : Int) < (ps.length : Int)) = true := decide_eq_true (by omega)
              go_wp2_with (first | (go_at_call 48; refine (among_ty ⟨w.heap.size, A, n, c, cs, w.heap.size + 1⟩ _ _ (hC.alloc _) (by omega) (Good.lit' (by simp) (by simp) (by simp [sm_int])) (by simp only; omega) (by omega) (by omega) (by omega)).mono ?_; rintro e w' ⟨v, rfl, hg, hC, x, rfl, x0, x1⟩; dsimp only at hg; have bW := below_gr (balloc bW _) hg (Nat.le_refl _); have hT := (hT.alloc _).gr hg (Nat.lt_succ_self _); obtain ⟨⟨u0, k0⟩, k1, k2, k3⟩ := hT.cell0 hp))

              have bW := bset bW (p := ⟨b, 0, none⟩) (by simp only; omega) (.int .i64 x)
              have hT := hT.set0 (x := x) (o := 0) rfl hp
              rw [hps] at hT
              go_wp2
              go_returns
              exact mix_end hT (by omega) (by simp; omega) bW
            · have i2 : decide ((0 : Int) < (ps.length : Int)) = false := decide_eq_false (by omega)
              subst e6
              go_wp2
              (go_returns; exact mix_end hT (by first | omega | (simp; omega)) (by first | omega | (simp; omega)) bW)
          · have q2 : (x == (2 : Int)) = false := beq_false_of_ne e2
            go_wp2
            (go_returns; exact mix_end hT (by first | omega | (simp; omega)) (by first | omega | (simp; omega)) bW)
end Go.Proofs.Ytlnfccncbfpoiaa
