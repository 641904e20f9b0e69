/-
  FnExactCancelOrder, walked. Conditions: none beyond the layout of its arguments.
-/
import Derived.Test.YtaekngiejehooaaX
namespace Go.Proofs.Ytaekngiejehooaa
open Go.RowKit
set_option maxRecDepth 100000
set_option maxHeartbeats 4000000

theorem markOrderS_own {A : Option Addr} {n c base : Nat} {t : TypeId} {xs : List Value} {k : Int} {w : World} (h : w.ownsRow base t 5 (.slice A n c) n xs) (hk : 0 < k ∧ k + (n : Int) * 5 ≤ 8000000) :
    Calls Try.prog 22 #[.slice A n c, .int .i64 k] w fun e w' => e = .returned (.int .i64 (k + (n : Int) * 5)) ∧ w'.ownsRow base t 5 (.slice A n c) n (ordF (ordM k n)) ∧ w.grownBy w' (Value.slice A n c).ownBlock := by
  rcases own_bk h with ⟨hv, rfl⟩ | ⟨g, cap, cs, hv, hb, hB, h1, h2, h3, h4⟩
  · simp only [Value.slice.injEq] at hv
    obtain ⟨rfl, _, rfl⟩ := hv
    obtain ⟨k0, k1⟩ := hk
    go_enter Try.func22, Try.ntmps22
    go_wp2
    refine wp_loop_rounds 1 ?_
    rw [rounds_succ]
    go_wp2
    go_ret
    exact ⟨by simp, by simpa [ordM, ordF] using World.ownsRow_nil w base t 5, World.grownBy.refl w _⟩
  · simp only [Value.slice.injEq] at hv
    obtain ⟨rfl, _, rfl⟩ := hv
    have h5 : n * 5 ≤ cs.length := by rw [h3]; exact Nat.mul_le_mul_right _ h1
    have hL : (ordF (ordM k n)).length = n * 5 := by rw [ordF_len, ordM_len]
    refine (markOrderS_any g n c t cs k w hB h5 hk).mono ?_
    rintro e w' ⟨rfl, hB', hG⟩
    exact ⟨rfl, bk_own hb hB' h1 h2 (by rw [List.length_append, hL, List.length_drop]; omega) (by rw [List.take_append_of_le_length (by rw [hL]; exact Nat.le_refl _)]; exact List.take_of_length_le (by rw [hL]; exact Nat.le_refl _)), hG⟩
theorem fnExactCancelOrder_walk (A : Option Addr) (n c : Nat) (zs : List OrderT) (id : Int) (w : World) (hr : Rd w 5 A n (ordF zs)) (hl : zs.length = n) (hn : n ≤ 9223372036854775807) (ok : ∀ z ∈ zs, I64 z.1 ∧ z.2.1.size ≤ maxLen ∧ I64 z.2.2.1 ∧ I64 z.2.2.2.1 ∧ I64 z.2.2.2.2) (_wid : I64 id) :
    Calls Try.prog 5 #[.slice A n c, .int .i64 id] w fun e w' => e = .returned (.bool true) ∧ Below w.heap.size w w' := by
  have hz9 : ∀ z ∈ zs, (z.2.1).size ≤ maxLen := fun z hz => (ok z hz).2.1
  clear ok
  obtain ⟨q, hq⟩ : ∃ q, canR zs id = q := ⟨_, rfl⟩
  obtain ⟨L, hL⟩ : ∃ L, canL zs id = L := ⟨_, rfl⟩
  have hml : L.length ≤ n := by rw [← hL, ← hl]; exact canL_len zs id
  obtain ⟨m, hm⟩ : ∃ m, L.length = m := ⟨_, rfl⟩
  rw [hm] at hml
  have HQ := Lib.hid hq
  have HL := Lib.hid hL
  have HM := Lib.hid hm
  clear hq hL hm
  go_enter Try.func5, Try.ntmps5
  go_wp2_with fail
  refine (szOrderS_any A n c zs 1048576 w hr hl hn hz9 (by omega)).mono ?_
  rintro e w0 ⟨v, rfl, _, hv, b0⟩
  by_cases hneg : v < 0
  · go_wp2
    go_returns
    exact ⟨rfl, b0⟩
  have hbig := hv (by omega)
  clear hv
  go_wp2_with fail
  refine (toOrderS_any A n c zs _ (hr.below b0) hl (by omega)).mono ?_
  rintro e w1 ⟨g1, rfl, hg1, hB1, hb1⟩
  have b1 := bstep b0 hb1
  go_wp2_with fail
  refine (sCancelOrder_is HQ.out HL.out _ hB1 hl (by omega) hz9).mono ?_
  rintro e w2 ⟨v2, rfl, ho2, hb2⟩
  rw [HM.out] at ho2
  obtain ⟨A2, c2, rfl, r2, _⟩ := own_rd ho2
  have b2 := bstep b1 hb2
  go_wp2_with fail
  refine (toOrderS_any A n c zs _ (hr.below b2) hl (by omega)).mono ?_
  rintro e w3 ⟨g3, rfl, hg3, hB3, hb3⟩
  have b3 := bstep b2 hb3
  have ho3 := own_below ho2 hb3
  have e3 := hb3
  go_wp2_with fail
  refine (CancelOrder_is HQ.out HL.out _ (ord_rd hB3 hl) hl (by omega) hz9).mono ?_
  rintro e w4 ⟨v4, rfl, ho4, hb4⟩
  rw [HM.out] at ho4
  obtain ⟨A4, c4, rfl, r4, _⟩ := own_rd ho4
  have b4 := bstep b3 hb4
  have e4 := bstep e3 hb4
  have hB4 := hB3.below hb4 hB3.lt
  go_wp2_with fail
  refine (eqOrderS_same _ _ m c4 c2 L _ r4 (r2.below e4) HM.out (by omega)).mono ?_
  rintro e w5 ⟨rfl, hb5⟩
  have b5 := bstep b4 hb5
  have e5 := bstep e4 hb5
  have ho5 := own_below ho4 hb5
  have hB5 := hB4.below hb5 hB4.lt
  go_wp2_with fail
  refine (toOrderS_any A n c zs _ (hr.below b5) hl (by omega)).mono ?_
  rintro e w6 ⟨g6, rfl, hg6, hB6, hb6⟩
  have b6 := bstep b5 hb6
  have e6 := bstep e5 hb6
  have ho6 := own_below ho5 hb6
  have hB6' := hB5.below hb6 hB5.lt
  go_wp2_with fail
  refine (eqOrderS_same _ _ n n n zs _ (ord_rd hB6' hl) (ord_rd hB6 hl) hl (by omega)).mono ?_
  rintro e w7 ⟨rfl, hb7⟩
  have b7 := bstep b6 hb7
  have e7 := bstep e6 hb7
  have ho7 := own_below ho6 hb7
  have hB7 := hB6'.below hb7 hB6'.lt
  go_wp2_with fail
  refine (markOrderS_any g3 n n _ _ 1 _ hB7 (by rw [ordF_len, hl]; exact Nat.le_refl _) (by omega)).mono ?_
  rintro e w8 ⟨rfl, hB8, hG8⟩
  have b8 := b7.grown hG8 b7.size (fun k e => by cases e; have := b2.size; omega)
  have e8 := e7.grown hG8 e7.size (fun k e => by cases e; omega)
  have ho8 := own_grown ho7 hG8 (Nat.lt_of_lt_of_le hB3.lt (Nat.le_refl _))
  go_wp2_with fail
  refine (eqOrderS_same _ _ m c4 c2 L _ (own_r ho8) (r2.below e8) HM.out (by omega)).mono ?_
  rintro e w9 ⟨rfl, hb9⟩
  have b9 := bstep b8 hb9
  have e9 := bstep e8 hb9
  have ho9 := own_below ho8 hb9
  go_wp2_with fail
  refine (markOrderS_own ho9 (by omega)).mono ?_
  rintro e w10 ⟨rfl, ho10, hG10⟩
  have b10 := own_grownBy ho9 b9 hG10 b3.size b9.size
  have e10 := own_grownBy ho9 e9 hG10 e3.size e9.size
  go_wp2_with fail
  refine (heldOrderS_any _ _ _ 1 _ (own_r ho10) (by omega)).mono ?_
  rintro e w11 ⟨rfl, hb11⟩
  have b11 := bstep b10 hb11
  have e11 := bstep e10 hb11
  have ho11 := own_below ho10 hb11
  go_wp2_with fail
  refine (toOrderS_any A n c zs _ (hr.below b11) hl (by omega)).mono ?_
  rintro e w12 ⟨g12, rfl, hg12, hB12, hb12⟩
  have b12 := bstep b11 hb12
  have e12 := bstep e11 hb12
  have ho12 := own_below ho11 hb12
  go_wp2_with fail
  refine (CancelOrder_is HQ.out HL.out _ (ord_rd hB12 hl) hl (by omega) hz9).mono ?_
  rintro e w13 ⟨v13, rfl, ho13, hb13⟩
  rw [HM.out] at ho13
  obtain ⟨A13, c13, rfl, r13, _⟩ := own_rd ho13
  have b13 := bstep b12 hb13
  have e13 := bstep e12 hb13
  have hp13 := own_below ho12 hb13
  go_wp2_with fail
  refine (eqOrderS_same _ _ m c13 c2 L _ r13 (r2.below e13) HM.out (by omega)).mono ?_
  rintro e w14 ⟨rfl, hb14⟩
  have b14 := bstep b13 hb14
  have hp14 := own_below hp13 hb14
  go_wp2_with fail
  refine (heldOrderS_any _ _ _ 1 _ (own_r hp14) (by omega)).mono ?_
  rintro e w15 ⟨rfl, hb15⟩
  go_wp2
  go_returns
  exact ⟨rfl, bstep b14 hb15⟩
end Go.Proofs.Ytaekngiejehooaa
