/-
  FnExactServeOrders, walked. Conditions: none beyond the layout of its arguments.
-/
import Derived.Test.YtaekngiejehooaaZP
import Derived.Test.YtaekngiejehooaaY
namespace Go.Proofs.Ytaekngiejehooaa
open Go.RowKit
set_option maxRecDepth 100000
set_option maxHeartbeats 4000000

theorem markStockS_own {A : Option Addr} {n c base : Nat} {t : TypeId} {xs : List Value} {k : Int} {w : World} (h : w.ownsRow base t 2 (.slice A n c) n xs) (hk : 0 < k ∧ k + (n : Int) * 2 ≤ 8000000) :
    Calls Try.prog 37 #[.slice A n c, .int .i64 k] w fun e w' => e = .returned (.int .i64 (k + (n : Int) * 2)) ∧ w'.ownsRow base t 2 (.slice A n c) n (stkF (stkM k n)) ∧ w.grownBy w' (Value.slice A n c).ownBlock := by
  rcases own_bk h with ⟨hv, rfl⟩ | ⟨g, cap, cs, hv, hb, hB, h1, h2, h3, h4⟩
  · simp only [Value.slice.injEq] at hv
    obtain ⟨rfl, _, rfl⟩ := hv
    obtain ⟨k0, k1⟩ := hk
    go_enter Try.func37, Try.ntmps37
    go_wp2
    refine wp_loop_rounds 1 ?_
    rw [rounds_succ]
    go_wp2
    go_ret
    exact ⟨by simp, by simpa [stkM, stkF] using World.ownsRow_nil w base t 2, World.grownBy.refl w _⟩
  · simp only [Value.slice.injEq] at hv
    obtain ⟨rfl, _, rfl⟩ := hv
    have h5 : n * 2 ≤ cs.length := by rw [h3]; exact Nat.mul_le_mul_right _ h1
    have hL : (stkF (stkM k n)).length = n * 2 := by rw [stkF_len, stkM_len]
    refine (markStockS_any g n c t cs k w hB h5 hk).mono ?_
    rintro e w' ⟨rfl, hB', hG⟩
    exact ⟨rfl, bk_own hb hB' h1 h2 (by rw [List.length_append, hL, List.length_drop]; omega) (by rw [List.take_append_of_le_length (by rw [hL]; exact Nat.le_refl _)]; exact List.take_of_length_le (by rw [hL]; exact Nat.le_refl _)), hG⟩
theorem own_other {w w' : World} {base k n : Nat} {t : TypeId} {v u : Value} {xs : List Value} (h : w.ownsRow base t k v n xs) (hg : w.grownBy w' u.ownBlock) (hne : ∀ b, u.ownBlock = some b → v.ownBlock ≠ some b) : w'.ownsRow base t k v n xs :=
  h.kept hg (by
    cases hv : v.ownBlock with
    | none => exact .inl rfl
    | some b => exact .inr (fun e => hne b e.symm hv))
theorem fnExactServeOrders_walk (A : Option Addr) (n c : Nat) (zs : List OrderT) (A' : Option Addr) (n' c' : Nat) (S : List StockT) (w : World) (hr : Rd w 5 A n (ordF zs)) (hl : zs.length = n) (hn : n ≤ 9223372036854775807) (ok : ∀ z ∈ zs, I64 z.1 ∧ z.2.1.size ≤ maxLen ∧ I64 z.2.2.1 ∧ I64 z.2.2.2.1 ∧ I64 z.2.2.2.2) (hr' : Rd w 2 A' n' (stkF S)) (hl' : S.length = n') (hn' : n' ≤ 9223372036854775807) (ok' : ∀ z ∈ S, z.1.size ≤ maxLen ∧ I64 z.2) :
    Calls Try.prog 9 #[.slice A n c, .slice A' n' c'] w fun e w' => e = .returned (.bool true) ∧ Below w.heap.size w w' := by
  have hz9 : ∀ z ∈ zs, (z.2.1).size ≤ maxLen := fun z hz => (ok z hz).2.1
  have hsk9 : ∀ z ∈ S, z.1.size ≤ maxLen := fun z hz => (ok' z hz).1
  clear ok ok'
  obtain ⟨q, hq⟩ : ∃ q, srvQ zs S = q := ⟨_, rfl⟩
  obtain ⟨R, hR⟩ : ∃ R, srvS zs S = R := ⟨_, rfl⟩
  have hm1 : R.1.length ≤ n := by rw [← hR, ← hl]; exact srv_len1 zs S
  have hm2 : R.2.length ≤ n' := by rw [← hR, ← hl']; exact srv_len2 zs S
  obtain ⟨m1, e1⟩ : ∃ m, R.1.length = m := ⟨_, rfl⟩
  obtain ⟨m2, e2⟩ : ∃ m, R.2.length = m := ⟨_, rfl⟩
  rw [e1] at hm1
  rw [e2] at hm2
  have HQ := Lib.hid hq
  have HR := Lib.hid hR
  have E1 := Lib.hid e1
  have E2 := Lib.hid e2
  clear hq hR e1 e2
  go_enter Try.func9, Try.ntmps9
  go_wp2_with fail
  refine (szOrderS_any A n c zs 1048576 w hr hl hn hz9 (by omega)).mono ?_
  rintro e w0 ⟨v, rfl, hv0, hv, b0⟩
  by_cases hneg : v < 0
  · go_wp2
    go_returns
    exact ⟨rfl, b0⟩
  have hbig := hv (by omega)
  clear hv
  go_wp2_with fail
  refine (szStockS_any A' n' c' S v _ (hr'.below b0) hl' hn' hsk9 (by omega)).mono ?_
  rintro e w1 ⟨v2, rfl, hv20, hv2, hb1⟩
  have b1 := bstep b0 hb1
  by_cases hneg2 : v2 < 0
  · go_wp2
    go_returns
    exact ⟨rfl, b1⟩
  have hbig2 := hv2 (by omega)
  clear hv2
  go_wp2_with fail
  refine (toOrderS_any A n c zs _ (hr.below b1) hl (by omega)).mono ?_
  rintro e w2 ⟨g2, rfl, hg2, hB2, hb2⟩
  have b2 := bstep b1 hb2
  go_wp2_with fail
  refine (toStockS_any A' n' c' S _ (hr'.below b2) hl' (by omega)).mono ?_
  rintro e w3 ⟨g3, rfl, hg3, hB3, hb3⟩
  have b3 := bstep b2 hb3
  go_wp2_with fail
  refine (sServeOrders_is HQ.out HR.out _ (hB2.below hb3 hB2.lt) hl hB3 hl' (by omega) (by omega) hz9 hsk9).mono ?_
  rintro e w4 ⟨v4, u4, rfl, ho4, hs4, _, hb4⟩
  have b4 := bstep b3 hb4
  rw [E1.out] at ho4
  rw [E2.out] at hs4
  obtain ⟨A4, c4, rfl, r4, _⟩ := own_rd ho4
  obtain ⟨D4, d4, rfl, s4, _⟩ := own_rd hs4
  go_wp2_with fail
  refine (toOrderS_any A n c zs _ (hr.below b4) hl (by omega)).mono ?_
  rintro e w5 ⟨g5, rfl, hg5, hB5, hb5⟩
  have b5 := bstep b4 hb5
  have e5 := hb5
  go_wp2_with fail
  refine (toStockS_any A' n' c' S _ (hr'.below b5) hl' (by omega)).mono ?_
  rintro e w6 ⟨g6, rfl, hg6, hB6, hb6⟩
  have b6 := bstep b5 hb6
  have e6 := bstep e5 hb6
  have hlt5 := hB5.lt
  have hB5 := hB5.below hb6 hB5.lt
  have hne56 : g5 ≠ g6 := by omega
  go_wp2_with fail
  refine (ServeOrders_is HQ.out HR.out _ hB5 hl hB6 hl' (by omega) (by omega) hz9 hsk9).mono ?_
  rintro e w7 ⟨v7, u7, rfl, ho7, hs7, hap, hb7⟩
  have b7 := bstep b6 hb7
  have e7 := bstep e6 hb7
  rw [E1.out] at ho7
  rw [E2.out] at hs7
  have hB5 := hB5.below hb7 hB5.lt
  have hlt6 := hB6.lt
  have hB6 := hB6.below hb7 hB6.lt
  obtain ⟨A7, c7, rfl, _, _⟩ := own_rd ho7
  obtain ⟨D7, d7, rfl, _, _⟩ := own_rd hs7
  go_wp2_with fail
  refine (eqIntS_yes _ (own_r ho7) (r4.below e7) (by omega) rfl).mono ?_
  rintro e w8 ⟨rfl, hb8⟩
  have b8 := bstep b7 hb8
  have e8 := bstep e7 hb8
  have ho8 := own_below ho7 hb8
  have hs8 := own_below hs7 hb8
  have hB5 := hB5.below hb8 hB5.lt
  have hB6 := hB6.below hb8 hB6.lt
  go_wp2_with fail
  refine (eqStockS_same _ _ m2 _ _ R.2 _ (own_r hs8) (s4.below e8) E2.out (by omega)).mono ?_
  rintro e w9 ⟨rfl, hb9⟩
  have b9 := bstep b8 hb9
  have e9 := bstep e8 hb9
  have ho9 := own_below ho8 hb9
  have hs9 := own_below hs8 hb9
  have hB5 := hB5.below hb9 hB5.lt
  have hB6 := hB6.below hb9 hB6.lt
  have i6 : (q != q) = false := by simp
  go_wp2_with fail
  refine (toOrderS_any A n c zs _ (hr.below b9) hl (by omega)).mono ?_
  rintro e w10 ⟨ga, rfl, hga, hBa, hb10⟩
  have b10 := bstep b9 hb10
  have e10 := bstep e9 hb10
  have ho10 := own_below ho9 hb10
  have hs10 := own_below hs9 hb10
  have hB5 := hB5.below hb10 hB5.lt
  have hB6 := hB6.below hb10 hB6.lt
  go_wp2_with fail
  refine (eqOrderS_same _ _ n n n zs _ (ord_rd hB5 hl) (ord_rd hBa hl) hl (by omega)).mono ?_
  rintro e w11 ⟨rfl, hb11⟩
  have b11 := bstep b10 hb11
  have e11 := bstep e10 hb11
  have ho11 := own_below ho10 hb11
  have hs11 := own_below hs10 hb11
  have hB5 := hB5.below hb11 hB5.lt
  have hB6 := hB6.below hb11 hB6.lt
  go_wp2_with fail
  refine (toStockS_any A' n' c' S _ (hr'.below b11) hl' (by omega)).mono ?_
  rintro e w12 ⟨gb, rfl, hgb, hBb, hb12⟩
  have b12 := bstep b11 hb12
  have e12 := bstep e11 hb12
  have ho12 := own_below ho11 hb12
  have hs12 := own_below hs11 hb12
  have hB5 := hB5.below hb12 hB5.lt
  have hB6 := hB6.below hb12 hB6.lt
  go_wp2_with fail
  refine (eqStockS_same _ _ n' n' n' S _ (stk_rd hB6 hl') (stk_rd hBb hl') hl' (by omega)).mono ?_
  rintro e w13 ⟨rfl, hb13⟩
  have b13 := bstep b12 hb13
  have e13 := bstep e12 hb13
  have ho13 := own_below ho12 hb13
  have hs13 := own_below hs12 hb13
  have hB5 := hB5.below hb13 hB5.lt
  have hB6 := hB6.below hb13 hB6.lt
  go_wp2_with fail
  refine (markOrderS_any g5 n n _ _ 1 _ hB5 (by rw [ordF_len, hl]; exact Nat.le_refl _) (by omega)).mono ?_
  rintro e w14 ⟨rfl, hM5, hG14⟩
  have b14 := b13.grown hG14 b13.size (fun k e => by cases e; have := b4.size; omega)
  have e14 := e13.grown hG14 e13.size (fun k e => by cases e; omega)
  have ho14 := own_grown ho13 hG14 (by omega)
  have hs14 := own_grown hs13 hG14 (by omega)
  have hB6 := hB6.grown hG14 (by intro e; cases e; exact hne56 rfl)
  go_wp2_with fail
  refine (markStockS_any g6 n' n' _ _ (1 + (n : Int) * 5) _ hB6 (by rw [stkF_len, hl']; exact Nat.le_refl _) (by omega)).mono ?_
  rintro e w15 ⟨rfl, hM6, hG15⟩
  have b15 := b14.grown hG15 b14.size (fun k e => by cases e; have := b5.size; omega)
  have e15 := e14.grown hG15 e14.size (fun k e => by cases e; have := e5.size; omega)
  have ho15 := own_grown ho14 hG15 (by omega)
  have hs15 := own_grown hs14 hG15 (by omega)
  go_wp2_with fail
  refine (eqIntS_yes _ (own_r ho15) (r4.below e15) (by omega) rfl).mono ?_
  rintro e w16 ⟨rfl, hb16⟩
  have b16 := bstep b15 hb16
  have e16 := bstep e15 hb16
  have ho16 := own_below ho15 hb16
  have hs16 := own_below hs15 hb16
  go_wp2_with fail
  refine (eqStockS_same _ _ m2 _ _ R.2 _ (own_r hs16) (s4.below e16) E2.out (by omega)).mono ?_
  rintro e w17 ⟨rfl, hb17⟩
  have b17 := bstep b16 hb17
  have e17 := bstep e16 hb17
  have ho17 := own_below ho16 hb17
  have hs17 := own_below hs16 hb17
  go_wp2_with fail
  refine (markIntS_own ho17 (by omega) (by omega)).mono ?_
  rintro e w18 ⟨rfl, ho18, hG18⟩
  have b18 := own_grownBy ho17 b17 hG18 b6.size b17.size
  have e18 := own_grownBy ho17 e17 hG18 e6.size e17.size
  have hs18 := own_other hs17 hG18 hap
  go_wp2_with fail
  refine (markStockS_own hs18 (by omega)).mono ?_
  rintro e w19 ⟨rfl, hs19, hG19⟩
  have b19 := own_grownBy hs18 b18 hG19 b6.size b18.size
  have e19 := own_grownBy hs18 e18 hG19 e6.size e18.size
  have ho19 := own_other ho18 hG19 (fun b h h2 => hap b h2 h)
  go_wp2_with fail
  refine (heldIntS_any _ _ _ 1 _ (own_r ho19) (by omega) (by omega)).mono ?_
  rintro e w20 ⟨rfl, h20⟩
  have hb20 : Below w19.heap.size w19 w20 := h20 ▸ Below.refl _ _
  have b20 := bstep b19 hb20
  have e20 := bstep e19 hb20
  have ho20 := own_below ho19 hb20
  have hs20 := own_below hs19 hb20
  go_wp2_with fail
  refine (heldStockS_any _ _ _ (1 + (m1 : Int)) _ (own_r hs20) (by omega)).mono ?_
  rintro e w21 ⟨rfl, hb21⟩
  have b21 := bstep b20 hb21
  have e21 := bstep e20 hb21
  have ho21 := own_below ho20 hb21
  have hs21 := own_below hs20 hb21
  go_wp2_with fail
  refine (toOrderS_any A n c zs _ (hr.below b21) hl (by omega)).mono ?_
  rintro e w22 ⟨gc, rfl, hgc, hBc, hb22⟩
  have b22 := bstep b21 hb22
  have e22 := bstep e21 hb22
  have ho22 := own_below ho21 hb22
  have hs22 := own_below hs21 hb22
  go_wp2_with fail
  refine (toStockS_any A' n' c' S _ (hr'.below b22) hl' (by omega)).mono ?_
  rintro e w23 ⟨gd, rfl, hgd, hBd, hb23⟩
  have b23 := bstep b22 hb23
  have e23 := bstep e22 hb23
  have ho23 := own_below ho22 hb23
  have hs23 := own_below hs22 hb23
  go_wp2_with fail
  refine (ServeOrders_is HQ.out HR.out _ (hBc.below hb23 hBc.lt) hl hBd hl' (by omega) (by omega) hz9 hsk9).mono ?_
  rintro e w24 ⟨vz, uz, rfl, hoz, hsz, _, hb24⟩
  have b24 := bstep b23 hb24
  have e24 := bstep e23 hb24
  have ho24 := own_below ho23 hb24
  have hs24 := own_below hs23 hb24
  rw [E1.out] at hoz
  rw [E2.out] at hsz
  obtain ⟨Az, cz, rfl, rz, _⟩ := own_rd hoz
  obtain ⟨Dz, dz, rfl, sz, _⟩ := own_rd hsz
  go_wp2_with fail
  refine (eqIntS_yes _ rz (r4.below e24) (by omega) rfl).mono ?_
  rintro e w25 ⟨rfl, hb25⟩
  have b25 := bstep b24 hb25
  have e25 := bstep e24 hb25
  have ho25 := own_below ho24 hb25
  have hs25 := own_below hs24 hb25
  go_wp2_with fail
  refine (eqStockS_same _ _ m2 _ _ R.2 _ (sz.below hb25) (s4.below e25) E2.out (by omega)).mono ?_
  rintro e w26 ⟨rfl, hb26⟩
  have b26 := bstep b25 hb26
  have e26 := bstep e25 hb26
  have ho26 := own_below ho25 hb26
  have hs26 := own_below hs25 hb26
  go_wp2_with fail
  refine (heldIntS_any _ _ _ 1 _ (own_r ho26) (by omega) (by omega)).mono ?_
  rintro e w27 ⟨rfl, h27⟩
  have hb27 : Below w26.heap.size w26 w27 := h27 ▸ Below.refl _ _
  have b27 := bstep b26 hb27
  have e27 := bstep e26 hb27
  have ho27 := own_below ho26 hb27
  have hs27 := own_below hs26 hb27
  go_wp2_with fail
  refine (heldStockS_any _ _ _ (1 + (m1 : Int)) _ (own_r hs27) (by omega)).mono ?_
  rintro e w28 ⟨rfl, hb28⟩
  have b28 := bstep b27 hb28
  have e28 := bstep e27 hb28
  have ho28 := own_below ho27 hb28
  have hs28 := own_below hs27 hb28
  go_wp2
  go_returns
  exact ⟨rfl, b28⟩
end Go.Proofs.Ytaekngiejehooaa
