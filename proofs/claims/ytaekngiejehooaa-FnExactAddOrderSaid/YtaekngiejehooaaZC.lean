/-
  cmp.Compare, and slices.SortStableFunc over few ints with a function of the call's own. Conditions: at most 19 elements.
-/
import Derived.Test.YtaekngiejehooaaIS
import Derived.Test.YtaekngiejehooaaMT
namespace Go.Proofs.Ytaekngiejehooaa
open Go.RowKit
set_option maxRecDepth 100000
set_option maxHeartbeats 2000000

def cmpv (a b : Int) : Int := if a < b then -1 else if b < a then 1 else 0
theorem isNaN_any (x : Int) (w : World) : Calls Try.prog 76 #[.int .i64 x] w fun e w' => e = .returned (.bool false) ∧ w = w' := by
  go_enter Try.func76, Try.ntmps76
  have h : (x != x) = false := by simp
  go_wp2
  go_returns
  exact ⟨rfl, rfl⟩
theorem Compare_any (a b : Int) (w : World) : Calls Try.prog 66 #[.int .i64 a, .int .i64 b] w fun e w' => e = .returned (.int .i64 (cmpv a b)) ∧ w = w' := by
  go_enter Try.func66, Try.ntmps66
  go_wp2_with (first | (go_at_call 76; refine (isNaN_any _ _).mono ?_; rintro e w' ⟨rfl, rfl⟩))
  all_goals (go_returns; exact ⟨ret_int (by unfold cmpv; (repeat' split) <;> omega), rfl⟩)
theorem ints_append (xs ys : List Int) : ints (xs ++ ys) = ints xs ++ ints ys := by simp [ints]
theorem ints_set (xs : List Int) (k : Nat) (v : Int) : ints (xs.set k v) = (ints xs).set k (.int .i64 v) := by simp [ints]
theorem cell_ints {w : World} {g : Nat} {t : TypeId} {L : List Int} {sp : List Value} (hB : Bk w g t (ints L ++ sp)) {k : Nat} (hk : k < L.length) {x : Int} (hx : L[k] = x) : w.cell? ⟨g, k, none⟩ = some (.int .i64 x) := by
  rw [hB.cell, List.getElem?_append_left (by rw [ints_length]; exact hk), ints_get L k hk, hx]
/-- the cells of a row with an element on its way, behind one swap -/
theorem swap_cells {xs rest : List Int} {sp : List Value} {x y : Int} {p : Nat} (hp : p < xs.length) (hy : xs[p] = y) :
    ((ints (insAt xs x (p + 1) ++ rest) ++ sp).set (p + 1) (.int .i64 y)).set p (.int .i64 x) = ints (insAt xs x p ++ rest) ++ sp := by
  have hL : (insAt xs x (p + 1) ++ rest).length = xs.length + 1 + rest.length := by rw [List.length_append, insAt_len]
  rw [List.set_append_left _ _ (by rw [ints_length]; omega), ← ints_set, List.set_append_left _ _ (by rw [ints_length, List.length_set]; omega), ← ints_set, ← hy, mid_swap hp]
theorem insort_int (g n cap : Nat) (t : TypeId) (ds : List Int) (sp : List Value) (cf : Int → Int → Int) (bx : Nat) (w : World) (hB : Bk w g t (ints ds ++ sp)) (hl : ds.length = n) (hn : n ≤ 1000)
    (hF : ∀ (x y : Int) (W : World), x ∈ ds → y ∈ ds → w.grownBy W (some g) → Calls Try.prog 69 #[.int .i64 x, .int .i64 y, .pointer (some ⟨bx, 0, none⟩)] W fun e w' => e = .returned (.int .i64 (cf x y)) ∧ Below W.heap.size W w') :
    Calls Try.prog 80 #[.slice (some ⟨g, 0, none⟩) n cap, .int .i64 0, .int .i64 n, .func (.func 69) #[] #[.pointer (some ⟨bx, 0, none⟩)]] w fun e w' => e = .returned (.tuple #[]) ∧ Bk w' g t (ints (srt (fun x y => decide (cf x y < 0)) ds n) ++ sp) ∧ w.grownBy w' (some g) := by
  obtain ⟨lt, hlt0⟩ : ∃ lt : Int → Int → Bool, (fun x y => decide (cf x y < 0)) = lt := ⟨_, rfl⟩
  rw [hlt0]
  have hltd : ∀ x y, decide (cf x y < 0) = lt x y := fun x y => by rw [← hlt0]
  have HLT := Lib.hid hltd
  clear hlt0 hltd
  have h1 : srt lt ds 1 ++ ds.drop 1 = ds := by
    cases ds with
    | nil => rfl
    | cons d ds => simp [srt, ins, insAt, back]
  go_enter Try.func80, Try.ntmps80
  go_wp2
  go_loopw [8] (fun i wr => ∃ k : Nat, 1 ≤ k ∧ (k ≤ n ∨ k = 1) ∧ i = .int .i64 k ∧ Bk wr g t (ints (srt lt ds k ++ ds.drop k) ++ sp) ∧ w.grownBy wr (some g)) (fun i _ => n - (intOf i).toNat)
  case atStart => exact ⟨1, Nat.le_refl _, .inr rfl, rfl, by rw [h1]; exact hB, World.grownBy.refl w _⟩
  case round =>
    obtain ⟨k, hk1, hk, rfl, hR, hG⟩ := hrel
    by_cases hltn : k < n
    · have hk2 : k < ds.length := by omega
      obtain ⟨x, hx⟩ : ∃ x, ds[k] = x := ⟨_, rfl⟩
      obtain ⟨xs, hxs⟩ : ∃ xs, srt lt ds k = xs := ⟨_, rfl⟩
      have hxl : xs.length = k := by rw [← hxs]; exact srt_len (by omega)
      have hxm : ∀ y ∈ xs, y ∈ ds := fun y hy => List.mem_of_mem_take (srt_mem (by omega) (hxs ▸ hy))
      have hmem : x ∈ ds := hx ▸ List.getElem_mem hk2
      obtain ⟨rest, hrest⟩ : ∃ rest, ds.drop (k + 1) = rest := ⟨_, rfl⟩
      have e1 : srt lt ds k ++ ds.drop k = insAt xs x k ++ rest := by
        rw [List.drop_eq_getElem_cons hk2, hx, hrest, hxs, ← hxl, insAt_end]; simp
      have e2 : srt lt ds (k + 1) ++ ds.drop (k + 1) = ins lt x xs ++ rest := by rw [srt_succ hk2, hx, hxs, hrest]
      rw [e1] at hR
      have hlen : rest.length = n - (k + 1) := by rw [← hrest, List.length_drop, hl]
      have HE := Lib.hid e2
      clear e1 e2 hx hxs hrest
      obtain ⟨wo, rfl⟩ : ∃ wo, wo = wr := ⟨_, rfl⟩
      have HR := Lib.hid hR
      have HG := Lib.hid hG
      have i0 : (k : Int) < (n : Int) := by omega
      clear hR hG
      go_wp2_with fail
      go_loopw [9] (fun j wr => ∃ q : Nat, q ≤ k ∧ j = .int .i64 q ∧ back lt x xs q = back lt x xs k ∧ Bk wr g t (ints (insAt xs x q ++ rest) ++ sp) ∧ w.grownBy wr (some g)) (fun j _ => (intOf j).toNat)
      case atStart => exact ⟨k, Nat.le_refl _, rfl, rfl, HR.out, HG.out⟩
      case round =>
        obtain ⟨q, hq, rfl, hb, hR, hG⟩ := hrel
        have hgl := hR.lt
        have HR := Lib.hid hR
        have HG := Lib.hid hG
        have HB := Lib.hid hb
        clear hb
        rcases Nat.eq_zero_or_pos q with h0 | h0
        · subst h0
          have hfin : ins lt x xs = insAt xs x 0 := by unfold ins; rw [hxl, ← HB.out, back_zero]
          have HF := Lib.hid hfin
          clear hfin hR hG
          go_wp2
          (refine wp_region_bel (by kernel_rfl) (by kernel_rfl) ?_; (repeat (go_big_quiet_step ((first | fail)))); refine wpQuiet_nil ?_; intro w' hw'; have hb := below_of hw'; clear hw'; (try clear cW fW zW); (first | (have bW := bstep bW hb) | (have bW := bstep (bdrew bW) hb) | (have bW := bstep (balloc bW _) hb) | (have bW := bstep (bdrewN bW _) hb) | (have bW := hb)); clear hb; obtain ⟨cW, fW⟩ := bcell bW; have zW := bsize bW)
          go_wp2
          go_roundw
          case rel => exact ⟨k + 1, by omega, .inl (by omega), by go_num, by rw [HE.out, HF.out]; exact HR.out.below bW HR.out.lt, HG.out.trans (grown_of_below bW (some g))⟩
          case measure => simp [intOf]; omega
        · obtain ⟨p, rfl⟩ : ∃ p, q = p + 1 := ⟨q - 1, by omega⟩
          have hp : p < xs.length := by omega
          obtain ⟨y, hy⟩ : ∃ y, xs[p] = y := ⟨_, rfl⟩
          have hym : y ∈ ds := hxm y (hy ▸ List.getElem_mem hp)
          have hLL : (insAt xs x (p + 1) ++ rest).length = n := by rw [List.length_append, insAt_len]; omega
          have c1 := cell_ints hR (k := p + 1) (x := x) (by omega) (mid_at (by omega) _)
          have c0 := cell_ints hR (k := p) (x := y) (by omega) (by rw [mid_before hp, hy])
          have i1 : (0 : Int) ≤ (p : Int) := by omega
          have i2 : (p : Int) < (n : Int) := by omega
          have i3 : (p : Int) + 1 < (n : Int) := by omega
          have g0 : decide ((0 : Int) < (p : Int) + 1) = true := by simp <;> omega
          have HY := Lib.hid hy
          clear hR hy
          rcases hc : lt x y with _ | _
          · have hd : decide (cf x y < 0) = false := by rw [HLT.out, hc]
            have hfin : ins lt x xs = insAt xs x (p + 1) := by
              unfold ins
              rw [hxl, ← HB.out, back_no hp (by rw [HY.out]; exact hc)]
            have HF := Lib.hid hfin
            clear hfin
            go_wp2
            (refine wp_region_bel (by kernel_rfl) (by kernel_rfl) ?_; (repeat (go_big_quiet_step ((first | (go_at_call 69; exact calls_bel (hF x y _ hmem hym (hG.trans (grown_of_below (below_bel _ _) _)))))))); refine wpQuiet_nil ?_; intro w' hw'; have hb := below_of hw'; clear hw'; (try clear cW fW zW); (first | (have bW := bstep bW hb) | (have bW := bstep (bdrew bW) hb) | (have bW := bstep (balloc bW _) hb) | (have bW := bstep (bdrewN bW _) hb) | (have bW := hb)); clear hb; obtain ⟨cW, fW⟩ := bcell bW; have zW := bsize bW)
            go_wp2
            go_roundw
            case rel => exact ⟨k + 1, by omega, .inl (by omega), by go_num, by rw [HE.out, HF.out]; exact HR.out.below bW HR.out.lt, HG.out.trans (grown_of_below bW (some g))⟩
            case measure => simp [intOf]; omega
          · have hd : decide (cf x y < 0) = true := by rw [HLT.out, hc]
            have hbk := back_yes (lt := lt) (x := x) (xs := xs) hp (by rw [HY.out]; exact hc)
            have HBK := Lib.hid hbk
            clear hbk
            go_wp2
            (refine wp_region_bel (by kernel_rfl) (by kernel_rfl) ?_; (repeat (go_big_quiet_step ((first | (go_at_call 69; exact calls_bel (hF x y _ hmem hym (hG.trans (grown_of_below (below_bel _ _) _)))))))); refine wpQuiet_nil ?_; intro w' hw'; have hb := below_of hw'; clear hw'; (try clear cW fW zW); (first | (have bW := bstep bW hb) | (have bW := bstep (bdrew bW) hb) | (have bW := bstep (balloc bW _) hb) | (have bW := bstep (bdrewN bW _) hb) | (have bW := hb)); clear hb; obtain ⟨cW, fW⟩ := bcell bW; have zW := bsize bW)
            have hR2 := HR.out.below bW HR.out.lt
            have hG2 := HG.out.trans (grown_of_below bW (some g))
            clear hG
            have d1 := cell_ints hR2 (k := p + 1) (x := x) (by omega) (mid_at (by omega) _)
            have d0 := cell_ints hR2 (k := p) (x := y) (by omega) (by rw [mid_before hp, HY.out])
            have f1 := hR2.frozen (p + 1)
            have f0 := hR2.frozen p
            have hne : ¬ (p + 1 = p) := by omega
            have hne2 : ¬ (p = p + 1) := by omega
            have HR2 := Lib.hid hR2
            have HG2 := Lib.hid hG2
            have hfin : ∀ W : World, Bk W g t (((ints (insAt xs x (p + 1) ++ rest) ++ sp).set (p + 1) (.int .i64 y)).set p (.int .i64 x)) → Bk W g t (ints (insAt xs x p ++ rest) ++ sp) := fun W h => by rw [swap_cells hp HY.out] at h; exact h
            have hfin2 : ∀ W : World, Bk W g t (((ints (insAt xs x (p + 1) ++ rest) ++ sp).set p (.int .i64 x)).set (p + 1) (.int .i64 y)) → Bk W g t (ints (insAt xs x p ++ rest) ++ sp) := fun W h => by rw [List.set_comm _ _ (by omega), swap_cells hp HY.out] at h; exact h
            have HFIN := Lib.hid hfin
            have HFIN2 := Lib.hid hfin2
            clear hR2 hG2 hfin hfin2 c0 c1 cW fW zW
            go_wp2
            go_region
            all_goals
              go_wp2
              go_roundw
              case rel =>
                first
                  | exact ⟨p, by omega, by go_num, by rw [← HBK.out]; exact HB.out, HFIN.out _ (Bk.drew ((HR2.out.set_ (p + 1) (.int .i64 y)).set_ p (.int .i64 x))), grown_drew ((HG2.out.trans (onlySet _ ⟨g, p + 1, none⟩ _)).trans (onlySet _ ⟨g, p, none⟩ _))⟩
                  | exact ⟨p, by omega, by go_num, by rw [← HBK.out]; exact HB.out, HFIN2.out _ (Bk.drew ((HR2.out.set_ p (.int .i64 x)).set_ (p + 1) (.int .i64 y))), grown_drew ((HG2.out.trans (onlySet _ ⟨g, p, none⟩ _)).trans (onlySet _ ⟨g, p + 1, none⟩ _))⟩
              case measure => simp [intOf]
    · have hfin : srt lt ds k ++ ds.drop k = srt lt ds n := by
        rcases hk with hk | hk
        · have : k = n := by omega
          subst this
          rw [List.drop_of_length_le (by omega), List.append_nil]
        · subst hk
          rw [h1]
          have h0 : n = 0 ∨ n = 1 := by omega
          rcases h0 with h0 | h0
          · subst h0
            obtain rfl : ds = [] := List.eq_nil_of_length_eq_zero hl
            rfl
          · subst h0
            rw [List.drop_of_length_le (by omega), List.append_nil] at h1
            exact h1.symm
      rw [hfin] at hR
      have HR := Lib.hid hR
      have HG := Lib.hid hG
      clear hR hG hfin h1
      go_wp2
      go_returns
      exact ⟨rfl, HR.out, HG.out⟩
end Go.Proofs.Ytaekngiejehooaa
